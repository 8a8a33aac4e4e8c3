/- Layer 11's raw heaps: where each node stands: words. No conditions. -/
import Derived.Test.YtpgjploaliefdaaGreatG07
import Derived.Laws.MakeOwn
import Derived.Test.YtpgjploaliefdaaGreatMo
import Derived.Deep.DeepCutAuto
import Derived.Deep.CutRange
import Derived.Test.YtpgjploaliefdaaGreatG06
import Derived.Test.YtpgjploaliefdaaGreatG05
namespace Go.Proofs.YtpgjploaliefdaaGreat.rh
open Go Go.RowKit hp ob hd cp ck gr lx
set_option linter.unusedVariables false
set_option linter.unusedSimpArgs false
set_option maxRecDepth 100000
set_option maxHeartbeats 4000000
def CJ(p:Nat×Nat):List Value:=[.int .i64 p.1,.int .i64 p.2]
theorem bP(p:Nat×Nat):(CJ p).length=2:=rfl
theorem XR(p:Nat×Nat):∀u∈CJ p,u.oneCell'=true:=λu hu=>by
 simp only[CJ,List.mem_cons,List.not_mem_nil,or_false]at hu
 rcases hu with rfl|rfl<;>rfl
theorem MS:(Tryz.prog.info? 113).map (λi=>(i.zero,i.size,i.bytes))=some (some (.agg #[.int .i64 0,.int .i64 0]),2,16):=by kernel_rfl
theorem uT{ops:Array Oper}{rest:List Oper}{o:Oper}{a:Act}{Q:Exit->Act->World->Prop}(w:World)(hw:Region.wanted o (yielded ops a.tmps)=true)(s x:Operand)
  (ho:o.op=.call {callee:=.builtin .append,args:= #[s,x],argTypes:= #[62,62]})
  (B:Nat) (v u:Value) (xs ys:List (Nat×Nat)) (hs:a.eval s=v) (hx:a.eval x=u) (hown:ak 113 2 CJ w B v xs) (hys:fH 2 CJ w u ys) (hbig:xs.length+ys.length<100000000000) (hB:B<=w.heap.size)
  (h:∀v' w',ak 113 2 CJ w' B v' (xs++ys)->w.grownBy w' v.ownBlock->(v'.ownBlock=v.ownBlock\/v'.ownBlock=some w.heap.size)->wpList Tryz.prog ops Q rest (a.put o.dst v') w'):wpList Tryz.prog ops Q (o::rest) a w:=
 Fq (α:=Nat×Nat) (k:=2) (en:=CJ) w hw s x _ ho bP XR _ 16 Tryz.underlying62 MS rfl (by decide) (by decide) B v u xs ys hs hx hown hys hbig hB h
def uZ(x:Rh)(c:Bool)(j:Nat):Nat×Nat:=(hpt x c j,if hpt x c j=0 then 0 else hof x c (hpt x c j) j)
def Aj(x:Rh)(c:Bool)(j:Nat):Nat×Nat:=(opt x c j,if opt x c j=0 then 0 else aY x c (opt x c j) j)
def iP(x:Rh)(c:Bool)(n:Nat):List (Nat×Nat):=(List.range n).map (uZ x c)
def ku(x:Rh)(c:Bool)(n:Nat):List (Nat×Nat):=(List.range n).map (Aj x c)
theorem ny(x:Rh)(c:Bool)(n:Nat):iP x c (n+1)=iP x c n++[uZ x c n]:=by unfold iP;rw[List.range_succ,List.map_append];rfl
theorem pU(x:Rh)(c:Bool)(n:Nat):ku x c (n+1)=ku x c n++[Aj x c n]:=by unfold ku;rw[List.range_succ,List.map_append];rfl
def xX(v u:Value):Prop:=v.ownBlock=none\/v.ownBlock≠u.ownBlock
theorem xX.sym{v u:Value}(h:xX v u):xX u v:=by
 unfold xX at*
 rcases h with h|h
 ·rcases hu:u.ownBlock with _|k
  ·exact .inl rfl
  ·exact .inr (by rw[h];simp)
 ·exact .inr (λe=>h e.symm)
theorem xX.left{v v' u:Value}{N:Nat}(h:xX v u)(hat:v'.ownBlock=v.ownBlock\/v'.ownBlock=some N)(hu:∀k,u.ownBlock=some k->k<N):xX v' u:=by
 unfold xX at*
 rcases hat with e|e
 ·rw[e];exact h
 ·refine .inr (λe2=> ?_)
  rw[e]at e2
  have:=hu N e2.symm
  omega
theorem ak.row{α:Type}{k:Nat}{en:α->List Value}{T:TypeId}{W w:World}{B:Nat}{v:Value}{zs:List α}{r:Option Nat}(h:ak T k en W B v zs)(hg:W.grownBy w r)(hr:v.ownBlock=none\/v.ownBlock≠r):ak T k en w B v zs:=by
 unfold ak at h⊢
 exact World.ownsRow.kept h hg hr
theorem kN{W w1:World}{b c:Nat}{cs ds:Array Value}(hb:Below W.heap.size W w1)(h1:b<W.heap.size)(h2:c<W.heap.size)(d1:∀i,W.cell? ⟨b,i,none⟩=cs[i]?)(d2:∀i,W.cell? ⟨c,i,none⟩=ds[i]?):(∀i,w1.cell? ⟨b,i,none⟩=cs[i]?)/\(∀i,w1.cell? ⟨c,i,none⟩=ds[i]?):=⟨λi=>(hb.cell (p:=⟨b,i,none⟩) h1).trans (d1 i),λi=>(hb.cell (p:=⟨c,i,none⟩) h2).trans (d2 i)⟩
theorem wu{W:World}{b c:Nat}{cs ds:Array Value}(h:(∀i,W.cell? ⟨b,i,none⟩=cs[i]?)/\(∀i,W.cell? ⟨c,i,none⟩=ds[i]?)){p:Addr}(h1:b≠p.block)(h2:c≠p.block)(u:Value):(∀i,(W.setCell p u).cell? ⟨b,i,none⟩=cs[i]?)/\(∀i,(W.setCell p u).cell? ⟨c,i,none⟩=ds[i]?):=
 ⟨λi=>(World.cell?_setCell_other _ _ _ _ (λe=>h1 (congrArg Addr.block e).symm)).trans (h.1 i),λi=>(World.cell?_setCell_other _ _ _ _ (λe=>h2 (congrArg Addr.block e).symm)).trans (h.2 i)⟩
theorem kC{W:World}{b c:Nat}{cs ds:Array Value}{T U:TypeId}(h:aj W b cs T)(k:aj W c ds U)(hT:T≠U):b≠c:=λe=>by
 subst e
 have:=h.raw.symm.trans k.raw
 simp only[Option.some.injEq,Obj.cells.injEq]at this
 exact hT this.2.1
theorem Ib{W:World}{b c:Nat}{cs ds:Array Value}(h:(∀i,W.cell? ⟨b,i,none⟩=cs[i]?)/\(∀i,W.cell? ⟨c,i,none⟩=ds[i]?)):(∀i,W.drew.cell? ⟨b,i,none⟩=cs[i]?)/\(∀i,W.drew.cell? ⟨c,i,none⟩=ds[i]?):=h
def jK(k:Nat):Array Value:=madeCells (Value.int .u64 0).cells k
theorem aas(k j:Nat)(h:j<k):(jK k)[j]? =some (.int .u64 0):=by
 simp[jK,madeCells,h,Value.cells,Nat.mod_one]
theorem Ic(k:Nat)(W:World)(h:k<1000):(Instr.makeSlice 29 (.int .i64 (k:Int)) (.int .i64 (k:Int))).run Tryz.prog W=.ok (.slice (some ⟨W.heap.size,0,none⟩) k k) (W.alloc (.cells (jK k) 24)):=by
 obtain⟨i0,hi,hz0,hz1,hz2⟩:=info_parts rY
 have:=run_make (P:=Tryz.prog) W 29 24 i0 (.int .u64 0) Tryz.underlying29 hi hz0 .i64 .i64 k k (by omega) (by omega) (by rw[hz2];omega) (by omega)
 rw[this,hz1]
 simp[jK]
attribute [irreducible] jK
def ZV(W:World)(n:Nat)(v:Value):Prop:=∃b,v=.slice (some ⟨b,0,none⟩) n n/\aj W b (jK n) 24
theorem ZV.tr{W w:World}{n:Nat}{v:Value}(h:ZV W n v)(hb:Below W.heap.size W w):ZV w n v:=by
 obtain⟨b,e,k⟩:=h
 exact⟨b,e,k.tr hb⟩
def Et(gv qv:Value)(hv ov:Value):Array Value:= #[.int .u64 0,.int .i64 0,.int .i64 0,.bool false,.int .i64 0,.slice none 0 0,.slice none 0 0,.slice none 0 0,.slice none 0 0,.slice none 0 0,gv,qv,hv,ov]
def MV(x:Rh)(c:Bool)(w w1:World)(X:Xv)(gv qv:Value)(k:Nat)(hv ov:Value)(wr:World):Prop:=
 aj wr w1.heap.size (Et gv qv hv ov) 64/\aj wr (w1.heap.size+1) #[.int .i64 0,.int .i64 (hof x c 1 k),.int .i64 (hof x c 2 k),.int .i64 (aY x c 3 k),.int .i64 (aY x c 4 k)] 107
 /\ak 113 2 CJ wr (w1.heap.size+2) hv (iP x c k)/\ak 113 2 CJ wr (w1.heap.size+2) ov (ku x c k)/\xX hv ov/\Below w1.heap.size w1 wr/\w1.heap.size+2<=wr.heap.size
def SP(W w1:World)(cb cn:Array Value)(hv:Value)(hl:List (Nat×Nat))(ov:Value)(ol:List (Nat×Nat))(S:Nat):Prop:=
 aj W w1.heap.size cb 64/\aj W (w1.heap.size+1) cn 107/\ak 113 2 CJ W (w1.heap.size+2) hv hl/\ak 113 2 CJ W (w1.heap.size+2) ov ol/\Below w1.heap.size w1 W/\W.heap.size=S
theorem SP.set{W w1:World}{cb cn:Array Value}{hv:Value}{hl:List (Nat×Nat)}{ov:Value}{ol:List (Nat×Nat)}{S:Nat}(h:SP W w1 cb cn hv hl ov ol S)(i:Nat)(v:Value):SP (W.setCell ⟨w1.heap.size+1,i,none⟩ v) w1 cb (cn.setIfInBounds i v) hv hl ov ol S:=by
 obtain⟨h1,h2,h3,h4,h5,h6⟩:=h
 exact⟨h1.other (by simp) v,h2.set i v,ak.aU h3 (Nat.lt_succ_self _) v,ak.aU h4 (Nat.lt_succ_self _) v,low_set h5 (Nat.le_succ _) v,by simpa [World.setCell]using h6⟩
end Go.Proofs.YtpgjploaliefdaaGreat.rh
namespace Go.Proofs.YtpgjploaliefdaaGreat.rh
open Go Go.RowKit hp ob hd cp ck gr lx
set_option linter.unusedVariables false
set_option linter.unusedSimpArgs false
set_option maxRecDepth 100000
set_option maxHeartbeats 4000000
structure Y2(W:World)(x:Rh)(c:Bool)(h:Hp)(v:Hv)(gs qs hs os:Sl):Prop where
 lay:h.lay=dW x c
 scan:h.scan=iU x c
 hf:HF h v
 hl:fH 2 CJ W (aS hs) (iP x c (nN x))
 ol:fH 2 CJ W (aS os) (ku x c (nN x))
theorem Y2.tr{W w:World}{x:Rh}{c:Bool}{h:Hp}{v:Hv}{gs qs hs os:Sl}(a:Y2 W x c h v gs qs hs os)(hb:Below W.heap.size W w):Y2 w x c h v gs qs hs os:=⟨a.lay,a.scan,a.hf,a.hl.tr hb,a.ol.tr hb⟩
theorem U5{W:World}{x:Rh}{c:Bool}{h:Hp}{v:Hv}{gs qs hs os:Sl}(a:Y2 W x c h v gs qs hs os)(ok:jT x){j:Nat}(hj:j<nN x)(W':World):
  Calls Tryz.prog 59 #[dA h v (aS gs) (aS qs) (aS hs) (aS os),.agg #[.int .i64 (uZ x c j).1,.int .i64 (uZ x c j).2]] W' λe w'=>e=.returned (.int .u64 (hrf x c j))/\Below W'.heap.size W' w':=by
 have h2:=um x c j
 have:=OG h v gs qs hs os (uZ x c j).1 (uZ x c j).2 W' a.hf (by rw[a.lay];exact pK ok.base.1 c) (by
  unfold uZ
  dsimp only
  by_cases h0:hpt x c j=0
  ·exact .inl h0
  ·refine .inr ⟨by omega,?_⟩
   rw[if_neg h0,a.lay,LU x c (by omega)]
   have:=Ho (x:=x) (c:=c) (p:=hpt x c j) (.inl ⟨by omega,h2,rfl⟩) hj
   unfold vP at this
   rw[if_pos h2]at this
   omega)
 have e:AA h.lay (uZ x c j).1 (uZ x c j).2=hrf x c j:=by
  rw[a.lay]
  unfold uZ hrf
  dsimp only
  by_cases h0:hpt x c j=0
  ·rw[h0];rfl
  ·rw[if_neg h0]
 rw[e]at this
 exact this
theorem ade{W:World}{x:Rh}{c:Bool}{h:Hp}{v:Hv}{gs qs hs os:Sl}(a:Y2 W x c h v gs qs hs os)(ok:jT x){j:Nat}(hj:j<nN x)(W':World):
  Calls Tryz.prog 59 #[dA h v (aS gs) (aS qs) (aS hs) (aS os),.agg #[.int .i64 (Aj x c j).1,.int .i64 (Aj x c j).2]] W' λe w'=>e=.returned (.int .u64 (Uk x c j))/\Below W'.heap.size W' w':=by
 have h2:=mY x c j
 have:=OG h v gs qs hs os (Aj x c j).1 (Aj x c j).2 W' a.hf (by rw[a.lay];exact pK ok.base.1 c) (by
  unfold Aj
  dsimp only
  by_cases h0:opt x c j=0
  ·exact .inl h0
  ·refine .inr ⟨by omega,?_⟩
   rw[if_neg h0,a.lay,LU x c (by omega)]
   have:=Ho (x:=x) (c:=c) (p:=opt x c j) (.inr ⟨by omega,by omega,rfl⟩) hj
   unfold vP at this
   rw[if_neg (by omega)]at this
   omega)
 have e:AA h.lay (Aj x c j).1 (Aj x c j).2=Uk x c j:=by
  rw[a.lay]
  unfold Aj Uk
  dsimp only
  by_cases h0:opt x c j=0
  ·rw[h0];rfl
  ·rw[if_neg h0]
 rw[e]at this
 exact this
theorem rQ{f:Nat->Nat×Nat}{N j:Nat}(hj:j<N):((List.range N).map f)[j]? =some (f j):=by rw[List.getElem?_map,List.getElem?_range hj];rfl
theorem C9{W w1:World}{b:Nat}{cs:Array Value}{p q:Addr}{u v:Value}(hb:Below W.heap.size W w1)(h1:b<W.heap.size)(h2:p.block<W.heap.size)(d1:∀i,W.cell? ⟨b,i,none⟩=cs[i]?)(hp:W.cell? p=some u)(hq:W.cell? q=some v):(∀i,w1.cell? ⟨b,i,none⟩=cs[i]?)/\(w1.cell? p=some u/\w1.cell? q=some v):=⟨λi=>(hb.cell (p:=⟨b,i,none⟩) h1).trans (d1 i),ah hb hp,ah hb hq⟩
theorem U6(x:Rh)(c:Bool)(ok:jT x)(h:Hp)(v:Hv)(gs qs hs os:Sl)(p a:Nat)(tg tw:Int)(w:World)(hb:Y2 w x c h v gs qs hs os)(hp:1<=p/\p<=4)(ht:tg<nN x)(ha:a<1000):
  Calls Tryz.prog 81 #[dA h v (aS gs) (aS qs) (aS hs) (aS os),.agg #[.int .i64 p,.int .i64 a],.int .i64 tg,.int .i64 tw] w λe w'=>e=.returned (.int .u64 (jl x c p a tg tw))/\Below w.heap.size w w':=by
 obtain⟨vl,vh,vo,vf,vr⟩:=v
 obtain⟨ga,gn,gc⟩:=gs
 obtain⟨qa,qn,qc⟩:=qs
 obtain⟨ia,inn,ic⟩:=hs
 obtain⟨oa,wB,oc⟩:=os
 rcases Int.lt_or_le tg 0 with h0|h0
 ·have HR:Hid (jl x c p a tg tw=0):=Lib.hid (by unfold jl;rw[if_pos h0])
  generalize jl x c p a tg tw=R at*
  obtain rfl:=HR.out
  clear HR hb
  unfold dA jg aS
  dsimp only
  go_enter Tryz.func81,Tryz.ntmps81
  go_wp2_with fail
  go_ret
  refine⟨rfl,?_⟩
  exact bm
 obtain⟨j,rfl⟩:=Int.eq_ofNat_of_zero_le h0
 have hj:j<nN x:=by omega
 have HH:Hid (∀W,Calls Tryz.prog 59 #[dA h ⟨vl,vh,vo,vf,vr⟩ (aS (ga,gn,gc)) (aS (qa,qn,qc)) (aS (ia,inn,ic)) (aS (oa,wB,oc)),.agg #[.int .i64 (uZ x c j).1,.int .i64 (uZ x c j).2]] W λe w'=>e=.returned (.int .u64 (hrf x c j))/\Below W.heap.size W w'):=Lib.hid (U5 hb ok hj)
 have HO:Hid (∀W,Calls Tryz.prog 59 #[dA h ⟨vl,vh,vo,vf,vr⟩ (aS (ga,gn,gc)) (aS (qa,qn,qc)) (aS (ia,inn,ic)) (aS (oa,wB,oc)),.agg #[.int .i64 (Aj x c j).1,.int .i64 (Aj x c j).2]] W λe w'=>e=.returned (.int .u64 (Uk x c j))/\Below W.heap.size W w'):=Lib.hid (ade hb ok hj)
 have hsc:=hb.scan
 obtain⟨ia2,ib,io,ic2,e1,i1,i2,i3,i4,i5,i6⟩:=hb.hl.form
 obtain⟨oa2,BX,oo,oc2,e2,o1,o2,o3,o4,o5,o6⟩:=hb.ol.form
 have hll:(iP x c (nN x)).length=nN x:=by unfold iP;simp
 have oll:(ku x c (nN x)).length=nN x:=by unfold ku;simp
 rw[hll]at e1 i1 i5
 rw[oll]at e2 o1 o5
 simp only[aS,Value.slice.injEq]at e1 e2
 obtain⟨rfl,rfl,rfl⟩:=e1
 obtain⟨rfl,rfl,rfl⟩:=e2
 have h1:=i1 (by omega)
 have h2:=o1 (by omega)
 have hib:=i5 (by omega)
 have anh:=o5 (by omega)
 subst h1 h2
 rw[hll]at i6
 rw[oll]at o6
 have hc0:=i6.at (i:=j) (rQ hj) 0 (.int .i64 (uZ x c j).1) rfl
 have hc1:=i6.at (i:=j) (rQ hj) 1 (.int .i64 (uZ x c j).2) rfl
 have BZ:=o6.at (i:=j) (rQ hj) 0 (.int .i64 (Aj x c j).1) rfl
 have EZ:=o6.at (i:=j) (rQ hj) 1 (.int .i64 (Aj x c j).2) rfl
 rw[Nat.add_zero]at hc0 BZ
 have hph:(uZ x c j).1=hpt x c j:=rfl
 have hpo:(Aj x c j).1=opt x c j:=rfl
 have MW:Hid (jl x c p a (j:Int) tw=if 2<p then Uk x c j else if(p=1/\iU x c<=a)/\(hpt x c j=0\/(0<opt x c j/\tw.tmod 2=0))then Uk x c j else hrf x c j):=Lib.hid (by unfold jl;rw[if_neg (by omega)];simp)
 generalize jl x c p a (j:Int) tw=R at*
 rw[hph]at hc0 HH
 rw[hpo]at BZ HO
 obtain⟨base,cap,tt,dJ,scan,low,high,old,far,roots⟩:=h
 dsimp only at hsc
 subst hsc
 obtain⟨⟨la,lc,e1⟩,⟨ha',hc,e2⟩,⟨Gh,oc',e3⟩,⟨fa,fc,e4⟩,⟨ra,rn,rc,e5⟩⟩:=hb.hf
 dsimp only at e1 e2 e3 e4 e5
 unfold dA jg aS at*
 dsimp only at*
 subst e1 e2 e3 e4 e5
 clear hb i1 i2 i3 i4 i5 i6 o1 o2 o3 o4 o5 o6 hll oll hph hpo ok
 generalize(uZ x c j).2=H2 at*
 generalize(Aj x c j).2=O2 at*
 have ani:=um x c j
 have hoc:=mY x c j
 generalize hpt x c j=HP at*
 generalize opt x c j=OP at*
 generalize hrf x c j=RH at*
 generalize Uk x c j=RO at*
 generalize iU x c=SC at*
 generalize nN x=N at*
 generalize low.length=ll at*
 generalize high.length=lh at*
 generalize old.length=lo at*
 generalize far.length=lf at*
 have h0i:¬((j:Int)<0):=by omega
 have hji:(j:Int)<(N:Int):=by omega
 by_cases h3:2<p
 ·have hR:Hid (R=RO):=Lib.hid (by rw[MW.out,if_pos h3])
  have h3i:(p:Int)>2:=by omega
  go_enter Tryz.func81,Tryz.ntmps81
  go_upto_region 4 with(fail)
  have K1:aj ((w.alloc (.cells #[Value.int .u64 base,.int .i64 cap,.int .i64 tt,.bool dJ,.int .i64 SC,.slice la ll lc,.slice ha' lh hc,.slice Gh lo oc',.slice fa lf fc,.slice ra rn rc,.slice ga gn gc,.slice qa qn qc,.slice (some ⟨ib,io,none⟩) N ic,.slice (some ⟨BX,oo,none⟩) N oc] 64)).alloc (.cells #[.int .i64 p,.int .i64 a] 113)) w.heap.size #[Value.int .u64 base,.int .i64 cap,.int .i64 tt,.bool dJ,.int .i64 SC,.slice la ll lc,.slice ha' lh hc,.slice Gh lo oc',.slice fa lf fc,.slice ra rn rc,.slice ga gn gc,.slice qa qn qc,.slice (some ⟨ib,io,none⟩) N ic,.slice (some ⟨BX,oo,none⟩) N oc] 64:=(aj.new _ _ _).alloc _
  have K2:aj ((w.alloc (.cells #[Value.int .u64 base,.int .i64 cap,.int .i64 tt,.bool dJ,.int .i64 SC,.slice la ll lc,.slice ha' lh hc,.slice Gh lo oc',.slice fa lf fc,.slice ra rn rc,.slice ga gn gc,.slice qa qn qc,.slice (some ⟨ib,io,none⟩) N ic,.slice (some ⟨BX,oo,none⟩) N oc] 64)).alloc (.cells #[.int .i64 p,.int .i64 a] 113)) (w.heap.size+1) #[.int .i64 p,.int .i64 a] 113:=aj.mk (by simp)
  have kW:Below w.heap.size w ((w.alloc (.cells #[Value.int .u64 base,.int .i64 cap,.int .i64 tt,.bool dJ,.int .i64 SC,.slice la ll lc,.slice ha' lh hc,.slice Gh lo oc',.slice fa lf fc,.slice ra rn rc,.slice ga gn gc,.slice qa qn qc,.slice (some ⟨ib,io,none⟩) N ic,.slice (some ⟨BX,oo,none⟩) N oc] 64)).alloc (.cells #[.int .i64 p,.int .i64 a] 113)):=by exact bm
  generalize(w.alloc (.cells #[Value.int .u64 base,.int .i64 cap,.int .i64 tt,.bool dJ,.int .i64 SC,.slice la ll lc,.slice ha' lh hc,.slice Gh lo oc',.slice fa lf fc,.slice ra rn rc,.slice ga gn gc,.slice qa qn qc,.slice (some ⟨ib,io,none⟩) N ic,.slice (some ⟨BX,oo,none⟩) N oc] 64)).alloc (.cells #[.int .i64 p,.int .i64 a] 113)=W0 at*
  replace hc0:=ah kW hc0
  replace hc1:=ah kW hc1
  replace BZ:=ah kW BZ
  replace EZ:=ah kW EZ
  obtain⟨l1,d1,f1⟩:=K1.get
  obtain⟨l2,d2,f2⟩:=K2.get
  have adg:ib<W0.heap.size:=by have:=kW.size;omega
  have Y3:BX<W0.heap.size:=by have:=kW.size;omega
  go_region_held3 (λw'=>(∀i,w'.cell? ⟨w.heap.size,i,none⟩= #[Value.int .u64 base,.int .i64 cap,.int .i64 tt,.bool dJ,.int .i64 SC,.slice la ll lc,.slice ha' lh hc,.slice Gh lo oc',.slice fa lf fc,.slice ra rn rc,.slice ga gn gc,.slice qa qn qc,.slice (some ⟨ib,io,none⟩) N ic,.slice (some ⟨BX,oo,none⟩) N oc][i]?)/\(w'.cell? ⟨BX,oo+j*2,none⟩=some (.int .i64 OP)/\w'.cell? ⟨BX,oo+j*2+1,none⟩=some (.int .i64 O2)))
   (first|(refine C9 (W:=W0) ?_ l1 (by assumption) d1 (by assumption) (by assumption);exact bm))
   (first|(go_at_call 59;refine(HO.out _).mono ?_;rintro e w4 ⟨rfl,k4⟩))
  go_wp2_with fail
  go_ret
  refine⟨by rw[hR.out];rfl,?_⟩
  exact bm
 ·rcases(show p=1\/p=2 by omega)with rfl|rfl
  ·clear hp
   have hgt2:¬((1:Int)>2):=by decide
   go_enter Tryz.func81,Tryz.ntmps81
   go_upto_region 5 with(fail)
   have K1:aj ((w.alloc (.cells #[Value.int .u64 base,.int .i64 cap,.int .i64 tt,.bool dJ,.int .i64 SC,.slice la ll lc,.slice ha' lh hc,.slice Gh lo oc',.slice fa lf fc,.slice ra rn rc,.slice ga gn gc,.slice qa qn qc,.slice (some ⟨ib,io,none⟩) N ic,.slice (some ⟨BX,oo,none⟩) N oc] 64)).alloc (.cells #[.int .i64 1,.int .i64 a] 113)) w.heap.size #[Value.int .u64 base,.int .i64 cap,.int .i64 tt,.bool dJ,.int .i64 SC,.slice la ll lc,.slice ha' lh hc,.slice Gh lo oc',.slice fa lf fc,.slice ra rn rc,.slice ga gn gc,.slice qa qn qc,.slice (some ⟨ib,io,none⟩) N ic,.slice (some ⟨BX,oo,none⟩) N oc] 64:=(aj.new _ _ _).alloc _
   have K2:aj ((w.alloc (.cells #[Value.int .u64 base,.int .i64 cap,.int .i64 tt,.bool dJ,.int .i64 SC,.slice la ll lc,.slice ha' lh hc,.slice Gh lo oc',.slice fa lf fc,.slice ra rn rc,.slice ga gn gc,.slice qa qn qc,.slice (some ⟨ib,io,none⟩) N ic,.slice (some ⟨BX,oo,none⟩) N oc] 64)).alloc (.cells #[.int .i64 1,.int .i64 a] 113)) (w.heap.size+1) #[.int .i64 1,.int .i64 a] 113:=aj.mk (by simp)
   have kW:Below w.heap.size w ((w.alloc (.cells #[Value.int .u64 base,.int .i64 cap,.int .i64 tt,.bool dJ,.int .i64 SC,.slice la ll lc,.slice ha' lh hc,.slice Gh lo oc',.slice fa lf fc,.slice ra rn rc,.slice ga gn gc,.slice qa qn qc,.slice (some ⟨ib,io,none⟩) N ic,.slice (some ⟨BX,oo,none⟩) N oc] 64)).alloc (.cells #[.int .i64 1,.int .i64 a] 113)):=by exact bm
   generalize(w.alloc (.cells #[Value.int .u64 base,.int .i64 cap,.int .i64 tt,.bool dJ,.int .i64 SC,.slice la ll lc,.slice ha' lh hc,.slice Gh lo oc',.slice fa lf fc,.slice ra rn rc,.slice ga gn gc,.slice qa qn qc,.slice (some ⟨ib,io,none⟩) N ic,.slice (some ⟨BX,oo,none⟩) N oc] 64)).alloc (.cells #[.int .i64 1,.int .i64 a] 113)=W0 at*
   replace hc0:=ah kW hc0
   replace hc1:=ah kW hc1
   replace BZ:=ah kW BZ
   replace EZ:=ah kW EZ
   obtain⟨l1,d1,f1⟩:=K1.get
   obtain⟨l2,d2,f2⟩:=K2.get
   have adg:ib<W0.heap.size:=by have:=kW.size;omega
   have Y3:BX<W0.heap.size:=by have:=kW.size;omega
   go_cut [54] (λv wx=>v=.bool (decide (((1:Nat)=1/\SC<=a)/\(HP=0\/(0<OP/\tw.tmod 2=0))))/\wx=W0)
   case first=>
    go_wp2_with fail
    all_goals (try simp only[decide_eq_true_eq,decide_eq_false_iff_not,beq_iff_eq,beq_eq_false_iff_ne,ne_eq]at*)
    all_goals first
     |(exfalso;omega)
     |(go_meet;first|exact⟨congrArg Value.bool (decide_eq_false (by omega)).symm,rfl⟩|exact⟨congrArg Value.bool (decide_eq_true (by omega)).symm,rfl⟩|exact⟨congrArg Value.bool (by rw[Bool.eq_iff_iff];simp only[beq_iff_eq,decide_eq_true_eq];omega),rfl⟩)
     |(go_meet;refine⟨congrArg Value.bool ?_,rfl⟩;(try generalize tw.tmod 2=T at*);rw[Bool.eq_iff_iff];simp only[beq_iff_eq,decide_eq_true_eq,Bool.or_eq_true,Bool.and_eq_true,true_and,true_iff,iff_true,eq_self_iff_true];omega)
   case rest=>
   obtain⟨rfl,hwc⟩:=hcut
   subst hwc
   by_cases hG:((1:Nat)=1/\SC<=a)/\(HP=0\/(0<OP/\tw.tmod 2=0))
   ·have hR:Hid (R=RO):=Lib.hid (by rw[MW.out,if_neg h3,if_pos hG])
    rw[decide_eq_true hG]
    clear hG MW
    go_upto_region 6 with(fail)
    go_region_held3 (λw'=>(∀i,w'.cell? ⟨w.heap.size,i,none⟩= #[Value.int .u64 base,.int .i64 cap,.int .i64 tt,.bool dJ,.int .i64 SC,.slice la ll lc,.slice ha' lh hc,.slice Gh lo oc',.slice fa lf fc,.slice ra rn rc,.slice ga gn gc,.slice qa qn qc,.slice (some ⟨ib,io,none⟩) N ic,.slice (some ⟨BX,oo,none⟩) N oc][i]?)/\(w'.cell? ⟨BX,oo+j*2,none⟩=some (.int .i64 OP)/\w'.cell? ⟨BX,oo+j*2+1,none⟩=some (.int .i64 O2)))
     (first|(refine C9 (W:=wc) ?_ l1 (by assumption) d1 (by assumption) (by assumption);exact bm))
     (first|(go_at_call 59;refine(HO.out _).mono ?_;rintro e w4 ⟨rfl,k4⟩))
    go_wp2_with fail
    go_ret
    refine⟨by rw[hR.out];rfl,?_⟩
    exact bm
   ·have hR:Hid (R=RH):=Lib.hid (by rw[MW.out,if_neg h3,if_neg hG])
    rw[decide_eq_false hG]
    clear hG MW
    go_upto_region 7 with(fail)
    go_region_held3 (λw'=>(∀i,w'.cell? ⟨w.heap.size,i,none⟩= #[Value.int .u64 base,.int .i64 cap,.int .i64 tt,.bool dJ,.int .i64 SC,.slice la ll lc,.slice ha' lh hc,.slice Gh lo oc',.slice fa lf fc,.slice ra rn rc,.slice ga gn gc,.slice qa qn qc,.slice (some ⟨ib,io,none⟩) N ic,.slice (some ⟨BX,oo,none⟩) N oc][i]?)/\(w'.cell? ⟨ib,io+j*2,none⟩=some (.int .i64 HP)/\w'.cell? ⟨ib,io+j*2+1,none⟩=some (.int .i64 H2)))
     (first|(refine C9 (W:=wc) ?_ l1 (by assumption) d1 (by assumption) (by assumption);exact bm))
     (first|(go_at_call 59;refine(HH.out _).mono ?_;rintro e w4 ⟨rfl,k4⟩))
    go_wp2_with fail
    go_ret
    refine⟨by rw[hR.out];rfl,?_⟩
    exact bm
  ·have hR:Hid (R=RH):=Lib.hid (by rw[MW.out,if_neg h3,if_neg (λh=>by omega)])
   clear MW hp
   go_enter Tryz.func81,Tryz.ntmps81
   go_upto_region 5 with(fail)
   have K1:aj ((w.alloc (.cells #[Value.int .u64 base,.int .i64 cap,.int .i64 tt,.bool dJ,.int .i64 SC,.slice la ll lc,.slice ha' lh hc,.slice Gh lo oc',.slice fa lf fc,.slice ra rn rc,.slice ga gn gc,.slice qa qn qc,.slice (some ⟨ib,io,none⟩) N ic,.slice (some ⟨BX,oo,none⟩) N oc] 64)).alloc (.cells #[.int .i64 2,.int .i64 a] 113)) w.heap.size #[Value.int .u64 base,.int .i64 cap,.int .i64 tt,.bool dJ,.int .i64 SC,.slice la ll lc,.slice ha' lh hc,.slice Gh lo oc',.slice fa lf fc,.slice ra rn rc,.slice ga gn gc,.slice qa qn qc,.slice (some ⟨ib,io,none⟩) N ic,.slice (some ⟨BX,oo,none⟩) N oc] 64:=(aj.new _ _ _).alloc _
   have K2:aj ((w.alloc (.cells #[Value.int .u64 base,.int .i64 cap,.int .i64 tt,.bool dJ,.int .i64 SC,.slice la ll lc,.slice ha' lh hc,.slice Gh lo oc',.slice fa lf fc,.slice ra rn rc,.slice ga gn gc,.slice qa qn qc,.slice (some ⟨ib,io,none⟩) N ic,.slice (some ⟨BX,oo,none⟩) N oc] 64)).alloc (.cells #[.int .i64 2,.int .i64 a] 113)) (w.heap.size+1) #[.int .i64 2,.int .i64 a] 113:=aj.mk (by simp)
   have kW:Below w.heap.size w ((w.alloc (.cells #[Value.int .u64 base,.int .i64 cap,.int .i64 tt,.bool dJ,.int .i64 SC,.slice la ll lc,.slice ha' lh hc,.slice Gh lo oc',.slice fa lf fc,.slice ra rn rc,.slice ga gn gc,.slice qa qn qc,.slice (some ⟨ib,io,none⟩) N ic,.slice (some ⟨BX,oo,none⟩) N oc] 64)).alloc (.cells #[.int .i64 2,.int .i64 a] 113)):=by exact bm
   generalize(w.alloc (.cells #[Value.int .u64 base,.int .i64 cap,.int .i64 tt,.bool dJ,.int .i64 SC,.slice la ll lc,.slice ha' lh hc,.slice Gh lo oc',.slice fa lf fc,.slice ra rn rc,.slice ga gn gc,.slice qa qn qc,.slice (some ⟨ib,io,none⟩) N ic,.slice (some ⟨BX,oo,none⟩) N oc] 64)).alloc (.cells #[.int .i64 2,.int .i64 a] 113)=W0 at*
   replace hc0:=ah kW hc0
   replace hc1:=ah kW hc1
   replace BZ:=ah kW BZ
   replace EZ:=ah kW EZ
   obtain⟨l1,d1,f1⟩:=K1.get
   obtain⟨l2,d2,f2⟩:=K2.get
   have adg:ib<W0.heap.size:=by have:=kW.size;omega
   have Y3:BX<W0.heap.size:=by have:=kW.size;omega
   go_upto_region 7 with(fail)
   go_region_held3 (λw'=>(∀i,w'.cell? ⟨w.heap.size,i,none⟩= #[Value.int .u64 base,.int .i64 cap,.int .i64 tt,.bool dJ,.int .i64 SC,.slice la ll lc,.slice ha' lh hc,.slice Gh lo oc',.slice fa lf fc,.slice ra rn rc,.slice ga gn gc,.slice qa qn qc,.slice (some ⟨ib,io,none⟩) N ic,.slice (some ⟨BX,oo,none⟩) N oc][i]?)/\(w'.cell? ⟨ib,io+j*2,none⟩=some (.int .i64 HP)/\w'.cell? ⟨ib,io+j*2+1,none⟩=some (.int .i64 H2)))
    (first|(refine C9 (W:=W0) ?_ l1 (by assumption) d1 (by assumption) (by assumption);exact bm))
    (first|(go_at_call 59;refine(HH.out _).mono ?_;rintro e w4 ⟨rfl,k4⟩))
   go_wp2_with fail
   go_ret
   refine⟨by rw[hR.out];rfl,?_⟩
   exact bm
end Go.Proofs.YtpgjploaliefdaaGreat.rh
namespace Go.Proofs.YtpgjploaliefdaaGreat.rh
open Go Go.RowKit hp ob hd cp ck gr lx
set_option linter.unusedVariables false
set_option linter.unusedSimpArgs false
set_option maxRecDepth 100000
set_option maxHeartbeats 4000000
theorem abQ{P:Program}{ops:Array Oper}{Q:Exit->Act->World->Prop}{K:Act->World->Prop}{o:Oper}{a:Act}{w:World}{E:Prop}{f:FuncId}{args:Array Value}{R:Ending->World->Prop}(hg:o.guard=none)
  (hr:(execOp a.eval o).run P w=.ok (.enter f args) w) (hc:Calls P f args w R) (h:∀e w',R e w'->∃v,e=.returned v/\K (a.put o.dst v) w'):if Region.wanted o (yielded ops a.tmps)=true then Oper.wp P o a w K Q else E:=by
 rw[if_pos (by simp[Region.wanted,hg])]
 unfold Oper.wp
 rw[hr]
 show Calls P f args w _
 refine Calls.mono hc ?_
 intro e w' hR
 obtain⟨v,rfl,hk⟩:=h e w' hR
 exact hk
def l9(l:List Int)(a:Nat)(ws:List Int):List Int:=l.take a++ws++l.drop (a+ws.length)
theorem Ie{l:List Int}{a:Nat}{ws:List Int}(h:a+ws.length<=l.length):(l9 l a ws).length=l.length:=by
 unfold l9
 simp only[List.length_append,List.length_take,List.length_drop]
 omega
theorem OO{l:List Int}{a:Nat}(h:a<l.length)(y:Int):l.set a y=l9 l a [y]:=by
 unfold l9
 rw[List.set_eq_take_append_cons_drop,if_pos h]
 simp
theorem JQ{l:List Int}{a n:Nat}{ws:List Int}(hn:n=a+ws.length)(h:n<l.length)(y:Int):(l9 l a ws).set n y=l9 l a (ws++[y]):=by
 subst hn
 have h1:(l.take a++ws).length=a+ws.length:=by simp;omega
 unfold l9
 rw[List.set_append_right _ _ (by omega),h1,Nat.sub_self,<-List.append_assoc,List.append_assoc (l.take a++ws)]
 congr 1
 rw[List.drop_eq_getElem_cons h]
 simp[Nat.add_assoc]
theorem xP{W:World}{B g l c k:Nat}{zs:List Int}(h:ak 24 1 oG W B (.slice (some ⟨g,0,none⟩) l c) zs)(x:Int):ak 24 1 oG (W.setCell ⟨g,k,none⟩ (.int .u64 x)) B (.slice (some ⟨g,0,none⟩) l c) (zs.set k x):=by
 have em:∀l:List Int,l.flatMap oG=l.map (λn=>Value.int .u64 n):=λl=>by
  induction l with
  |nil=>rfl
  |cons a l ih=>rw[List.flatMap_cons,ih];rfl
 unfold ak at h⊢
 rw[em]at h⊢
 rcases h.2 with⟨h0,_⟩|⟨g',cap,cur,h0,h1,h2,h3,h4,h5,h6⟩
 ·cases h0
 ·cases h0
  have hB:aj W g cur 24:=aj.of h2
  refine⟨by simp,.inr ⟨g,c,cur.setIfInBounds k (.int .u64 x),by simp,h1,(hB.set k (.int .u64 x)).raw,by simpa using h3,h4,by simpa using h5,?_⟩⟩
  rw[List.map_set,<-h6]
  simp[List.take_set]
theorem OQ{W:World}{B:Nat}{v:Value}{zs:List Int}(h:ak 24 1 oG W B v zs)(h0:0<zs.length):∃g c,v=.slice (some ⟨g,0,none⟩) zs.length c/\B<=g/\g<W.heap.size/\zs.length<=c/\(∀i,W.frozen? ⟨g,i,none⟩=false):=by
 have h':=h
 unfold ak at h'
 rcases h'.2 with⟨rfl,h1⟩|⟨g,cap,cur,rfl,h1,h2,h3,h4,h5,h6⟩
 ·omega
 ·have hB:aj W g cur 24:=aj.of h2
  obtain⟨lg,cg,fg⟩:=hB.get
  exact⟨g,cap,rfl,h1,lg,h3,fg⟩
theorem kX{W:World}{B g n c:Nat}{zs:List Int}(h:ak 24 1 oG W B (.slice (some ⟨g,0,none⟩) n c) zs)(i:Nat):W.frozen? ⟨g,i,none⟩=false:=by
 have h':=h
 unfold ak at h'
 rcases h'.2 with⟨h0,h1⟩|⟨g',cap,cur,h0,h1,h2,h3,h4,h5,h6⟩
 ·cases h0
 ·cases h0
  have hB:aj W g cur 24:=aj.of h2
  exact hB.get.2.2 i
theorem sS{W:World}{B g n c k:Nat}{zs:List Int}(h:ak 24 1 oG W B (.slice (some ⟨g,0,none⟩) n c) zs)(hk:k<zs.length):∃y,W.cell? ⟨g,k,none⟩=some (.int .u64 y):=by
 obtain⟨ad,cap,e,_,_,_,h4⟩:=h.form fJ
 obtain⟨g',e2,_,_,h5⟩:=h4 (by omega)
 subst e2
 cases e
 refine⟨zs[k],?_⟩
 have:=h5 k 0 zs[k] (.int .u64 zs[k]) (List.getElem?_eq_getElem hk) rfl
 rwa[Nat.mul_one,Nat.add_zero]at this
def vg(v:Hv)(p:Nat)(u:Value):Hv:=if p=1 then{v with l:=u}else if p=2 then{v with h:=u}else if p=3 then{v with o:=u}else{v with f:=u}
def setH(h:Hp)(p:Nat)(u:List Int):Hp:=if p=1 then{h with low:=u}else if p=2 then{h with high:=u}else if p=3 then{h with old:=u}else{h with far:=u}
def SF(v:Hv):Prop:=(∃a n c,v.l=.slice a n c)/\(∃a n c,v.h=.slice a n c)/\(∃a n c,v.o=.slice a n c)/\(∃a n c,v.f=.slice a n c)/\(∃a n c,v.r=.slice a n c)
theorem HF.sf{h:Hp}{v:Hv}(a:HF h v):SF v:=by
 obtain⟨⟨_,_,e1⟩,⟨_,_,e2⟩,⟨_,_,e3⟩,⟨_,_,e4⟩,⟨_,_,_,e5⟩⟩:=a
 exact⟨⟨_,_,_,e1⟩,⟨_,_,_,e2⟩,⟨_,_,_,e3⟩,⟨_,_,_,e4⟩,⟨_,_,_,e5⟩⟩
structure y8(W:World)(x:Rh)(c:Bool)(h:Hp)(v:Hv)(gs qs hs os:Sl):Prop where
 bin:Y2 W x c h v gs qs hs os
 nodes:nM W (aS gs) (lX x)
 roots:fH 1 zK W (aS qs) (bI x)
 l:fH 1 oG W v.l h.low
 hi:fH 1 oG W v.h h.high
 o:fH 1 oG W v.o h.old
 f:fH 1 oG W v.f h.far
 r:v.r=.slice none 0 0
theorem y8.tr{W w:World}{x:Rh}{c:Bool}{h:Hp}{v:Hv}{gs qs hs os:Sl}(a:y8 W x c h v gs qs hs os)(hb:Below W.heap.size W w):y8 w x c h v gs qs hs os:=⟨a.bin.tr hb,a.nodes.tr hb,a.roots.tr hb,a.l.tr hb,a.hi.tr hb,a.o.tr hb,a.f.tr hb,a.r⟩
def aO(x:Rh)(c:Bool):Hp:=⟨(dW x c).base,(dW x c).cap,(dW x c).tt,c,iU x c,List.replicate (hof x c 1 (nN x)) 0,List.replicate (hof x c 2 (nN x)) 0,List.replicate (aY x c 3 (nN x)) 0,List.replicate (aY x c 4 (nN x)) 0,[]⟩
theorem yP(x:Rh)(c:Bool):(aO x c).lay=dW x c:=by
 unfold aO Hp.lay dW
 simp only[List.length_replicate]
theorem aat{W:World}{b n:Nat}(h:aj W b (jK n) 24)(hn:n<1000):fH 1 oG W (.slice (some ⟨b,0,none⟩) n n) (List.replicate n 0):=by
 obtain⟨lb,cb,_⟩:=h.get
 refine fH.mk (ad:=some ⟨b,0,none⟩) (b:=b) (off:=0) (cap:=n) (by rw[List.length_replicate]) (λ_=>rfl) (λe=>by cases e) (by rw[List.length_replicate];exact Nat.le_refl _) (by omega) (λ_=>lb) λi j y z hy hz=> ?_
 have hi:i<n:=by
  rcases Nat.lt_or_ge i n with h|h
  ·exact h
  ·rw[List.getElem?_eq_none (by simpa using h)]at hy;cases hy
 have hj:j=0:=by
  rcases j with _|j
  ·rfl
  ·simp[oG]at hz
 subst hj
 rw[List.getElem?_replicate,if_pos hi]at hy
 cases hy
 have hz:Value.int .u64 0=z:=by simpa [oG]using hz
 rw[Nat.zero_add,Nat.mul_one,Nat.add_zero,cb,aas n i hi,hz]
theorem qA(h:Hp)(v:Hv)(p:Nat)(hp:1<=p/\p<=4)(w:World)(hf:SF v):
  Calls Tryz.prog 24 #[fD h v,.int .i64 p] w λe w'=>e=.returned (v.part p)/\Below w.heap.size w w':=by
 obtain⟨vl,vh,vo,vf,vr⟩:=v
 obtain⟨⟨la,ln,lc,e1⟩,⟨ha,hn,hc,e2⟩,⟨oa,wB,oc,e3⟩,⟨fa,fn,fc,e4⟩,⟨ra,rn,rc,e5⟩⟩:=hf
 dsimp only at e1 e2 e3 e4 e5
 subst e1 e2 e3 e4 e5
 unfold fD
 dsimp only
 rcases(show p=1\/p=2\/p=3\/p=4 by omega)with rfl|rfl|rfl|rfl
 all_goals
  go_enter Tryz.func24,Tryz.ntmps24
  go_wp2_with fail
  go_ret
  refine⟨rfl,?_⟩
  exact bm
theorem yQ(hh:Hp)(v:Hv)(p:Nat)(hp:1<=p/\p<=4)(ua:Option Addr)(un uc:Nat)(w:World)(hf:SF v):
  Calls Tryz.prog 25 #[fD hh v,.int .i64 p,.slice ua un uc] w λe w'=>e=.returned (fD hh (vg v p (.slice ua un uc)))/\Below w.heap.size w w':=by
 obtain⟨vl,vh,vo,vf,vr⟩:=v
 obtain⟨⟨la,ln,lc,e1⟩,⟨ha,hn,hc,e2⟩,⟨oa,wB,oc,e3⟩,⟨fa,fn,fc,e4⟩,⟨ra,rn,rc,e5⟩⟩:=hf
 dsimp only at e1 e2 e3 e4 e5
 subst e1 e2 e3 e4 e5
 rcases(show p=1\/p=2\/p=3\/p=4 by omega)with rfl|rfl|rfl|rfl
 all_goals
  unfold fD vg
  dsimp only
  go_enter Tryz.func25,Tryz.ntmps25
  go_wp2_with fail
 ·refine bodyPost_ret (v:=.agg #[.int .u64 hh.base,.int .i64 hh.cap,.int .i64 hh.tt,.bool hh.dJ,.int .i64 hh.scan,.slice ua un uc,.slice ha hn hc,.slice oa wB oc,.slice fa fn fc,.slice ra rn rc]) (by simp only[results,Tryz.results25];go_simp) rfl ⟨rfl,?_⟩
  exact bm
 ·refine bodyPost_ret (v:=.agg #[.int .u64 hh.base,.int .i64 hh.cap,.int .i64 hh.tt,.bool hh.dJ,.int .i64 hh.scan,.slice la ln lc,.slice ua un uc,.slice oa wB oc,.slice fa fn fc,.slice ra rn rc]) (by simp only[results,Tryz.results25];go_simp) rfl ⟨rfl,?_⟩
  exact bm
 ·refine bodyPost_ret (v:=.agg #[.int .u64 hh.base,.int .i64 hh.cap,.int .i64 hh.tt,.bool hh.dJ,.int .i64 hh.scan,.slice la ln lc,.slice ha hn hc,.slice ua un uc,.slice fa fn fc,.slice ra rn rc]) (by simp only[results,Tryz.results25];go_simp) rfl ⟨rfl,?_⟩
  exact bm
 ·refine bodyPost_ret (v:=.agg #[.int .u64 hh.base,.int .i64 hh.cap,.int .i64 hh.tt,.bool hh.dJ,.int .i64 hh.scan,.slice la ln lc,.slice ha hn hc,.slice oa wB oc,.slice ua un uc,.slice ra rn rc]) (by simp only[results,Tryz.results25];go_simp) rfl ⟨rfl,?_⟩
  exact bm
theorem Cb(x:Rh)(c:Bool)(p a:Nat)(tw:Int):∀(l:List Int)(k:Nat)(t:Int),bZ x c p a tw k (l++[t])=bZ x c p a tw k l++[jl x c p (a+1+(k+l.length)) t (wr (tw+((k+l.length:Nat):Int)))]
 |[],k,t=>by simp[bZ]
 |s::l,k,t=>by
  simp only[List.cons_append,bZ]
  rw[Cb x c p a tw l (k+1) t,show k+1+l.length=k+(s::l).length by simp;omega]
end Go.Proofs.YtpgjploaliefdaaGreat.rh
namespace Go.Proofs.YtpgjploaliefdaaGreat.rh
open Go Go.RowKit hp ob hd cp ck gr lx
set_option linter.unusedVariables false
set_option linter.unusedSimpArgs false
def ZW(B:Nat)(W:World)(n:Nat)(v:Value):Prop:=∃b,v=.slice (some ⟨b,0,none⟩) n n/\aj W b (jK n) 24/\B<=b
theorem ZW.tr{B:Nat}{W w:World}{n:Nat}{v:Value}(h:ZW B W n v)(hb:Below W.heap.size W w):ZW B w n v:=by
 obtain⟨b,e,k,l⟩:=h
 exact⟨b,e,k.tr hb,l⟩
def Off(W:World)(n m:Nat)(P:World->Prop):Prop:=∀W':World,W.heap.size<=W'.heap.size->(∀j,j<W.heap.size->(j<n\/m<=j)->W'.heap[j]? =W.heap[j]?)->P W'
theorem Off.now{W:World}{n m:Nat}{P:World->Prop}(h:Off W n m P):P W:=h W (Nat.le_refl _) λ_ _ _=>rfl
theorem Off.go{W W1:World}{n m:Nat}{P:World->Prop}(h:Off W n m P)(hs:W.heap.size<=W1.heap.size)(hg:∀j,j<W.heap.size->(j<n\/m<=j)->W1.heap[j]? =W.heap[j]?):Off W1 n m P:=λW' hs' hg'=>h W' (Nat.le_trans hs hs') λj hj h1=>(hg' j (Nat.lt_of_lt_of_le hj hs) h1).trans (hg j hj h1)
theorem Off.tr{W W1:World}{n m:Nat}{P:World->Prop}(h:Off W n m P)(hb:Below W.heap.size W W1):Off W1 n m P:=h.go hb.size λj hj _=>hb.block j hj
theorem Off.set{W:World}{n m:Nat}{P:World->Prop}(h:Off W n m P){p:Addr}(h1:n<=p.block)(h2:p.block<m)(u:Value):Off (W.setCell p u) n m P:=h.go (by simp[World.setCell]) λj hj h3=>Below.heap_setCell W p u j (by omega)
theorem Off.bU{n m:Nat}{P:World->Prop}:∀{L:List (Nat×Value)}{W:World}{b:Nat},Off W n m P->n<=b->b<m->Off (rh.bU W b L) n m P
 |[],_,_,h,_,_=>h
 |q::L,_,_,h,e,f=>Off.bU (L:=L) (Off.set h (p:=⟨_,q.1,none⟩) e f q.2) e f
theorem Off.imp{W:World}{n m:Nat}{P Q:World->Prop}(h:Off W n m P)(k:∀W,P W->Q W):Off W n m Q:=λW' hs hg=>k _ (h W' hs hg)
theorem Off.and{W:World}{n m:Nat}{P Q:World->Prop}(h:Off W n m P)(k:Off W n m Q):Off W n m λW=>P W/\Q W:=λW' hs hg=>⟨h W' hs hg,k W' hs hg⟩
theorem lY{α:Type}{k:Nat}{en:α->List Value}{W w:World}{v:Value}{zs:List α}(h:fH k en W v zs)(hs:W.heap.size<=w.heap.size)(hg:∀j,j<W.heap.size->w.heap[j]? =W.heap[j]?):fH k en w v zs:=by
 obtain⟨ad,b,off,cap,e,h1,h2,h3,h4,h5,h6⟩:=h.form
 subst e
 rcases Nat.eq_zero_or_pos zs.length with hz|hz
 ·have:zs=[]:=List.eq_nil_of_length_eq_zero hz
  subst this
  exact fH.mk (ad:=ad) (b:=0) (off:=0) (cap:=cap) rfl (λh=>by simp at h) h2 (Nat.zero_le _) h4 (λh=>by simp at h) (λi j x y hx=>by simp at hx)
 ·have e:=h1 hz
  subst e
  refine fH.mk (ad:=some ⟨b,off,none⟩) (b:=b) (off:=off) (cap:=cap) rfl (λ_=>rfl) h2 h3 h4 (λh=>Nat.lt_of_lt_of_le (h5 h) hs) λi j x y hx hy=> ?_
  rw[yF (hg b (h5 hz))]
  exact h6.at hx j y hy
theorem y8.blk{W w:World}{x:Rh}{c:Bool}{h:Hp}{v:Hv}{gs qs hs os:Sl}(a:y8 W x c h v gs qs hs os)(hz:W.heap.size<=w.heap.size)(hg:∀j,j<W.heap.size->w.heap[j]? =W.heap[j]?):y8 w x c h v gs qs hs os:=by
 obtain⟨⟨b1,b2,b3,b4,b5⟩,⟨vs,n1,n2,n3⟩,a3,a4,a5,a6,a7,a8⟩:=a
 exact⟨⟨b1,b2,b3,lY b4 hz hg,lY b5 hz hg⟩,⟨vs,n1,lY n2 hz hg,λi a b ha hb=>⟨lY (n3 i a b ha hb).1 hz hg,lY (n3 i a b ha hb).2 hz hg⟩⟩,lY a3 hz hg,lY a4 hz hg,lY a5 hz hg,lY a6 hz hg,lY a7 hz hg,a8⟩
theorem nR{α:Type}{k:Nat}{en:α->List Value}(hk:∀x:α,(en x).length=k){T:TypeId}{W:World}{B n m:Nat}{v:Value}{zs:List α}(h:ak T k en W B v zs)(hB:m<=B):Off W n m λW'=>fH k en W' v zs:=λW' hs hg=>by
 obtain⟨ad,cap,rfl,h1,h2,h3,h4⟩:=h.form hk
 rcases Nat.eq_zero_or_pos zs.length with hz|hz
 ·have:zs=[]:=List.eq_nil_of_length_eq_zero hz
  subst this
  exact fH.mk (ad:=ad) (b:=0) (off:=0) (cap:=cap) rfl (λh=>by simp at h) h3 (Nat.zero_le _) h2 (λh=>by simp at h) (λi j x y hx=>by simp at hx)
 ·obtain⟨b,rfl,h5,h6,h7⟩:=h4 hz
  refine fH.mk (ad:=some ⟨b,0,none⟩) (b:=b) (off:=0) (cap:=cap) rfl (λ_=>rfl) h3 h1 h2 (λ_=>by omega) λi j x y hx hy=> ?_
  rw[yF (hg b h6 (.inr (by omega))),Nat.zero_add]
  exact h7 i j x y hx hy
theorem off2{W w:World}{n0 m:Nat}{P:World->Prop}(a:Off W 0 n0 P)(hb:Below W.heap.size W w):Off w W.heap.size m λW=>Off W 0 n0 P:=λW1 h1 h2 W2 h3 h4=>a W2 (Nat.le_trans hb.size (Nat.le_trans h1 h3)) λj hj hj2=>by
 have hjw:j<w.heap.size:=Nat.lt_of_lt_of_le hj hb.size
 rw[h4 j (Nat.lt_of_lt_of_le hjw h1) hj2,h2 j hjw (.inl hj),hb.block j hj]
theorem JU{α:Type}{k:Nat}{en:α->List Value}(hk:∀x:α,(en x).length=k){T:TypeId}{W:World}{B n m n0:Nat}{v:Value}{zs:List α}(h:ak T k en W B v zs)(hB:m<=B)(h0:n0<=B):Off W n m λW'=>Off W' 0 n0 λW'=>fH k en W' v zs:=λW1 h1 h2 W2 h3 h4=>
 nR hk (n:=0) (m:=B) h (Nat.le_refl _) W2 (Nat.le_trans h1 h3) λj hj hj2=>by
  have hjB:B<=j:=by omega
  rw[h4 j (Nat.lt_of_lt_of_le hj h1) (.inr (by omega)),h2 j hj (.inr (by omega))]
theorem oK{W:World}{b n n0:Nat}(h:aj W b (jK n) 24)(hn:n<1000)(hb:n0<=b):Off W 0 n0 λW=>fH 1 oG W (.slice (some ⟨b,0,none⟩) n n) (List.replicate n 0):=λW' h1 h2=>aat (aj.of ((h2 b h.lt (.inr hb)).trans h.raw)) hn
theorem sU{W:World}{g n0:Nat}{P:World->Prop}(h:Safe W g none P)(hg:n0<=g+1):Off W 0 n0 P:=λW' h1 h2=>h W' h1 λj hj hj2 _=>h2 j hj (.inr (by omega))
end Go.Proofs.YtpgjploaliefdaaGreat.rh
namespace Go.Proofs.YtpgjploaliefdaaGreat.rh
open Go Go.RowKit hp ob hd cp ck gr lx
set_option linter.unusedVariables false
set_option linter.unusedSimpArgs false
set_option maxRecDepth 100000
set_option maxHeartbeats 4000000
theorem U7{W w1:World}{b b2 b3:Nat}{cs ds es:Array Value}{q:Addr}{v:Value}(hb:Below W.heap.size W w1)(h1:b<W.heap.size)(h2:b2<W.heap.size)(h3:b3<W.heap.size)(d1:∀i,W.cell? ⟨b,i,none⟩=cs[i]?)(d2:∀i,W.cell? ⟨b2,i,none⟩=ds[i]?)(d3:∀i,W.cell? ⟨b3,i,none⟩=es[i]?)(hq:W.cell? q=some v):
  (∀i,w1.cell? ⟨b,i,none⟩=cs[i]?)/\(∀i,w1.cell? ⟨b2,i,none⟩=ds[i]?)/\(∀i,w1.cell? ⟨b3,i,none⟩=es[i]?)/\w1.cell? q=some v:=⟨λi=>(hb.cell (p:=⟨b,i,none⟩) h1).trans (d1 i),λi=>(hb.cell (p:=⟨b2,i,none⟩) h2).trans (d2 i),λi=>(hb.cell (p:=⟨b3,i,none⟩) h3).trans (d3 i),ah hb hq⟩
theorem SF.aau{v:Hv}(h:SF v)(p:Nat)(a:Option Addr)(n c:Nat):∃l h' o f r:Sl,vg v p (.slice a n c)=⟨aS l,aS h',aS o,aS f,aS r⟩:=by
 obtain⟨vl,vh,vo,vf,vr⟩:=v
 obtain⟨⟨la,ln,lc,e1⟩,⟨ha,hn,hc,e2⟩,⟨oa,wB,oc,e3⟩,⟨fa,fn,fc,e4⟩,⟨ra,rn,rc,e5⟩⟩:=h
 dsimp only at e1 e2 e3 e4 e5
 subst e1 e2 e3 e4 e5
 unfold vg
 split
 ·exact⟨(a,n,c),(ha,hn,hc),(oa,wB,oc),(fa,fn,fc),(ra,rn,rc),rfl⟩
 split
 ·exact⟨(la,ln,lc),(a,n,c),(oa,wB,oc),(fa,fn,fc),(ra,rn,rc),rfl⟩
 split
 ·exact⟨(la,ln,lc),(ha,hn,hc),(a,n,c),(fa,fn,fc),(ra,rn,rc),rfl⟩
 ·exact⟨(la,ln,lc),(ha,hn,hc),(oa,wB,oc),(a,n,c),(ra,rn,rc),rfl⟩
theorem MZ(x:Rh)(c:Bool)(p a:Nat)(tw:Int)(ps:List Int){k:Nat}(hk:k<ps.length):bZ x c p a tw 0 (ps.take (k+1))=bZ x c p a tw 0 (ps.take k)++[jl x c p (a+1+k) ps[k] (wr (tw+k))]:=by
 rw[List.take_succ_eq_append_getElem hk,Cb]
 simp only[List.length_take,Nat.min_eq_left (Nat.le_of_lt hk),Nat.zero_add]
theorem U8(x:Rh)(c:Bool)(ok:jT x)(hh:Hp)(v:Hv)(gs qs hs os:Sl)(p a:Nat)(nd:Sl×Sl)(ps ds:List Int)(tw:Int)(w:World)(hb:Y2 w x c hh v gs qs hs os)(hrow:fH 1 oG w (v.part p) (hh.part p))(hnd:lW w nd (ps,ds))(hp:1<=p/\p<=4)
  (hfit:a+1+ps.length+ds.length<=(hh.part p).length) (hlen:(hh.part p).length<=900) (hps:∀t∈ps,t<nN x) (hpl:ps.length<=4) (hdl:ds.length<=4):
  Calls Tryz.prog 58 #[dA hh v (aS gs) (aS qs) (aS hs) (aS os),.agg #[.int .i64 p,.int .i64 a],.agg #[aS nd.1,aS nd.2],.int .i64 tw] w λe w'=>(∃u,e=.returned (dA hh (vg v p u) (aS gs) (aS qs) (aS hs) (aS os))/\ak 24 1 oG w' w.heap.size u (l9 (hh.part p) a (bV ((ps.length+ds.length:Nat):Int) ps.length::(bZ x c p a tw 0 ps++ds))))/\Below w.heap.size w w':=by
 have hsf:=hb.hf.sf
 have Iw:Hid (∀W,Calls Tryz.prog 24 #[fD hh v,.int .i64 p] W λe w'=>e=.returned (v.part p)/\Below W.heap.size W w'):=Lib.hid λW=>qA hh v p hp W hsf
 have QV:Hid (∀W ua un uc,Calls Tryz.prog 25 #[fD hh v,.int .i64 p,.slice ua un uc] W λe w'=>(∃l h' o f r:Sl,e=.returned (fD hh ⟨aS l,aS h',aS o,aS f,aS r⟩)/\vg v p (.slice ua un uc)=⟨aS l,aS h',aS o,aS f,aS r⟩)/\Below W.heap.size W w'):=Lib.hid λW ua un uc=>by
  refine(yQ hh v p hp ua un uc W hsf).mono ?_
  rintro e w' ⟨rfl,k⟩
  obtain⟨l,h',o,f,r,e⟩:=hsf.aau p ua un uc
  exact⟨⟨l,h',o,f,r,by rw[e],e⟩,k⟩
 have HSL:Hid (∀W(j:Nat)(t tw:Int),a+1+j<1000->t<nN x->Below w.heap.size w W->Calls Tryz.prog 81 #[dA hh v (aS gs) (aS qs) (aS hs) (aS os),.agg #[.int .i64 p,.int .i64 ((a+1+j:Nat):Int)],.int .i64 t,.int .i64 tw] W λe w'=>e=.returned (.int .u64 (jl x c p (a+1+j) t tw))/\Below W.heap.size W w'):=Lib.hid λW j t tw hj ht hb'=>U6 x c ok hh v gs qs hs os p (a+1+j) t tw W (hb.tr hb') hp ht hj
 obtain⟨⟨pa,pn,pc⟩,⟨da,dn,dc⟩⟩:=nd
 obtain⟨hpi,hdi⟩:=hnd
 obtain⟨pa',pb,po,pc',e1,p1,p2,p3,p4,p5,p6⟩:=hpi.form
 obtain⟨da',db,dof,dc',e2,d1,d2,d3,d4,d5,d6⟩:=hdi.form
 obtain⟨wa,wb,wo,wc,e3,r1,r2,r3,r4,r5,r6⟩:=hrow.form
 simp only[aS,Value.slice.injEq]at e1 e2
 obtain⟨rfl,rfl,rfl⟩:=e1
 obtain⟨rfl,rfl,rfl⟩:=e2
 rw[e3]at Iw hrow
 have HPS:=Lib.hid hps
 have HP6:=Lib.hid p6
 have HD6:=Lib.hid d6
 have Iu:Hid (∀W,Calls Tryz.prog 40 #[.agg #[.int .i64 ((ps.length+ds.length:Nat):Int),.int .i64 (ps.length:Nat)]] W λe w'=>e=.returned (.tuple #[.int .u64 (bV ((ps.length+ds.length:Nat):Int) ps.length),.int .i64 (uN ((ps.length+ds.length:Nat):Int) ps.length)])/\Below W.heap.size W w'):=Lib.hid λW=>qN _ _ W
 generalize bV ((ps.length+ds.length:Nat):Int) ps.length=PK at*
 generalize uN ((ps.length+ds.length:Nat):Int) ps.length=PE at*
 have HSK:Hid (∀k,k<ps.length->bZ x c p a tw 0 (ps.take (k+1))=bZ x c p a tw 0 (ps.take k)++[jl x c p (a+1+k) (ps.getD k 0) (wr (tw+k))]):=Lib.hid λk hk=>by
  rw[MZ _ _ _ _ _ _ hk,List.getD_eq_getElem?_getD,List.getElem?_eq_getElem hk]
  rfl
 have HL0:Hid (bZ x c p a tw 0 (ps.take 0)=[]):=rfl
 have HLL:Hid (∀k,k<=ps.length->(bZ x c p a tw 0 (ps.take k)).length=k):=Lib.hid λk hk=>by rw[jf];simp[hk]
 have HLF:Hid (bZ x c p a tw 0 (ps.take ps.length)=bZ x c p a tw 0 ps):=Lib.hid (by rw[List.take_length])
 generalize hLs:(λk=>bZ x c p a tw 0 (ps.take k))=Ls at*
 have hLk:∀k,bZ x c p a tw 0 (ps.take k)=Ls k:=λk=>by rw[<-hLs]
 simp only[hLk]at HSK HL0 HLL HLF
 clear hLk hLs
 rw[<-HLF.out]
 have HTK:Hid (∀k(hk:k<ps.length),fH 1 zK w (.slice pa ps.length pc) ps):=Lib.hid λ_ _=>HP6.out
 generalize hPv:hh.part p=P at*
 clear hb hpi hdi p6 d6 r6 hps hPv HTK r1 r2 r3 r4 r5 e3
 obtain⟨ga,gn,gc⟩:=gs
 obtain⟨qa,qn,qc⟩:=qs
 obtain⟨ia,inn,ic⟩:=hs
 obtain⟨ja,jn,jc⟩:=os
 obtain⟨vl,vh,vo,vf,vr⟩:=v
 obtain⟨⟨la,ln,lc,e1⟩,⟨ha,hn,hc,e2⟩,⟨oa,wB,oc,e3⟩,⟨fa,fn,fc,e4⟩,⟨ra,rn,rc,e5⟩⟩:=hsf
 dsimp only at e1 e2 e3 e4 e5
 subst e1 e2 e3 e4 e5
 unfold dA jg fD aS at*
 dsimp only at*
 generalize hNP:ps.length=NP at*
 generalize hND:ds.length=ND at*
 have Lc:=Lib.hid hNP
 have XT:=Lib.hid hND
 clear hNP hND
 have hw1:IntKind.i64.wrap ((NP:Int)+(ND:Int))=((NP+ND:Nat):Int):=by rw[IntWalk.i64_in _ (by omega)];omega
 have hPn:P.length<=900:=hlen
 have akA:=hfit
 generalize hn0:P.length=n at*
 have U9:=Lib.hid hn0
 clear hn0
 obtain⟨M,hM⟩:∃M,NP+ND=M:=⟨_,rfl⟩
 rw[hM]at hw1 Iu
 have HM:=Lib.hid hM
 clear hM
 go_enter Tryz.func58,Tryz.ntmps58
 go_wp2_with fail
 refine(Iw.out _).mono ?_;rintro e w1 ⟨rfl,k1⟩
 have KB:aj w1 w.heap.size #[Value.int .u64 hh.base,.int .i64 hh.cap,.int .i64 hh.tt,.bool hh.dJ,.int .i64 hh.scan,.slice la ln lc,.slice ha hn hc,.slice oa wB oc,.slice fa fn fc,.slice ra rn rc,.slice ga gn gc,.slice qa qn qc,.slice ia inn ic,.slice ja jn jc] 64:=aj.tr (.alloc (.alloc (.alloc (.new _ _ _) _) _) _) k1
 have KP:aj w1 (w.heap.size+1) #[.int .i64 p,.int .i64 a] 113:=aj.tr (.alloc (.alloc (.mk (by simp)) _) _) k1
 have KN:aj w1 (w.heap.size+2) #[.slice pa NP pc,.slice da ND dc] 111:=aj.tr (.alloc (.mk (by simp)) _) k1
 have KR:aj w1 (w.heap.size+1+1+1) _ 64:=aj.tr (.mk (by simp)) k1
 have hb1:Below w.heap.size w w1:=by exact bm
 clear k1
 have lB:=KB.lt
 obtain⟨lP,cP,fP⟩:=KP.get
 obtain⟨lN,cN,fN⟩:=KN.get
 go_wp2_with (at_builtin;refine D7 _ rfl (.const (.slice none 0 0)) (.tmp 18) rfl w1.heap.size (.slice none 0 0) (.slice wa n wc) [] P rfl rfl (ak.nil _ _) (hrow.tr ?e0) ?e1 ?e2 ?e3)
 case e0=>exact hb1
 case e1=>have:=U9.out;simp;omega
 case e2=>exact Nat.le_refl _
 case e3=>
 intro v2 w2 o2 hg2 I8
 have k2:Below w1.heap.size w1 w2:=dF hg2 (Below.refl _ _) (Nat.le_refl _) (λk hk=>by cases hk)
 obtain⟨g,cap,rfl,hgB,hgl,hgc,hgf⟩:=OQ o2 (by rw[U9.out];omega)
 rw[U9.out]at o2 hgc⊢
 replace cP:=λi=>(k2.cell (p:=⟨w.heap.size+1,i,none⟩) lP).trans (cP i)
 replace cN:=λi=>(k2.cell (p:=⟨w.heap.size+2,i,none⟩) lN).trans (cN i)
 have lP2:w.heap.size+1<w2.heap.size:=by omega
 have lN2:w.heap.size+2<w2.heap.size:=by omega
 go_wp2_with fail
 refine(Iu.out _).mono ?_;rintro e w3 ⟨rfl,k3⟩
 have ho3:=o2.tr k3
 have agU:g<w3.heap.size:=by have:=k3.size;omega
 have agV:=kX ho3
 have b3:Below w1.heap.size w1 w3:=by exact bm
 replace cP:=λi=>(k3.cell (p:=⟨w.heap.size+1,i,none⟩) lP2).trans (cP i)
 replace cN:=λi=>(k3.cell (p:=⟨w.heap.size+2,i,none⟩) lN2).trans (cN i)
 clear o2 hg2 I8 hgf hgl k2 k3 Iw Iu
 have hai:(a:Int)<(n:Int):=by omega
 obtain⟨y3,hy3⟩:=sS ho3 (k:=a) (by rw[U9.out];omega)
 go_wp2_with fail
 have tY:=xP (k:=a) ho3 PK
 rw[OO (by rw[U9.out];omega)]at tY
 have b4:Below w1.heap.size w1 (w3.setCell ⟨g,a,none⟩ (.int .u64 PK)):=pV b3 hgB _
 clear ho3 hy3 agV agU b3 cP cN lP2 lN2
 go_loopw [12] (λi wr=>∃k:Nat,k<=NP/\i=.int .i64 k/\ak 24 1 oG wr w1.heap.size (.slice (some ⟨g,0,none⟩) n cap) (l9 P a (PK::Ls k))/\Below w1.heap.size w1 wr) (λi _=>NP-(intOf i).toNat)
 case atStart=>
  refine⟨0,Nat.zero_le _,rfl,?_,?_⟩
  ·rw[HL0.out];exact tY
  ·exact b4
 case round=>
  obtain⟨k,hk,rfl,ho,bel⟩:=hrel
  obtain⟨_,cB1,_⟩:=KB.get
  obtain⟨lP1,cP1,_⟩:=KP.get
  obtain⟨lN1,cN1,_⟩:=KN.get
  have lB':w.heap.size<wr.heap.size:=by have:=bel.size;omega
  have lP':w.heap.size+1<wr.heap.size:=by have:=bel.size;omega
  have lN':w.heap.size+2<wr.heap.size:=by have:=bel.size;omega
  obtain⟨_,cB,fB⟩:=(KB.tr bel).get
  obtain⟨_,cP,fP⟩:=(KP.tr bel).get
  obtain⟨_,cN,fN⟩:=(KN.tr bel).get
  by_cases hlt:k<NP
  ·obtain rfl:=p1 (by omega)
   have hps0:k<ps.length:=by rw[Lc.out];exact hlt
   have aav:=ah hb1 (HP6.out.at (i:=k) (List.getElem?_eq_getElem hps0) 0 (.int .i64 ps[k]) rfl)
   rw[Nat.mul_one,Nat.add_zero]at aav
   have hpc:=ah bel aav
   have ada:pb<wr.heap.size:=by have:=bel.size;have:=p5 (by omega);have:=hb1.size;omega
   obtain⟨TW,hTW⟩:∃m,IntKind.i64.wrap (tw+(k:Int))=m:=⟨_,rfl⟩
   obtain⟨A1,hA1⟩:∃m,a+1=m:=⟨_,rfl⟩
   obtain⟨AK,hAK⟩:∃m,a+1+k=m:=⟨_,rfl⟩
   have HT:ps[k]<nN x:=HPS.out _ (List.getElem_mem hps0)
   have MW:Hid ((l9 P a (PK::Ls k)).set AK (jl x c p AK ps[k] TW)=l9 P a (PK::Ls (k+1))):=Lib.hid (by
    have h1:=HSK.out k hlt
    have h2:=HLL.out k hk
    rw[List.getD_eq_getElem?_getD,List.getElem?_eq_getElem hps0,hAK]at h1
    have h3:rh.wr (tw+k)=TW:=hTW
    rw[h3]at h1
    rw[JQ (by simp;omega) (by rw[U9.out];omega),h1]
    rfl)
   have QM:Hid (∀W,Below w.heap.size w W->Calls Tryz.prog 81 #[.agg #[Value.int .u64 hh.base,.int .i64 hh.cap,.int .i64 hh.tt,.bool hh.dJ,.int .i64 hh.scan,.slice la ln lc,.slice ha hn hc,.slice oa wB oc,.slice fa fn fc,.slice ra rn rc,.slice ga gn gc,.slice qa qn qc,.slice ia inn ic,.slice ja jn jc],.agg #[.int .i64 p,.int .i64 (AK:Int)],.int .i64 ps[k],.int .i64 TW] W λe w'=>e=.returned (.int .u64 (jl x c p AK ps[k] TW))/\Below W.heap.size W w'):=Lib.hid λW hW=>by
    have:=HSL.out W k ps[k] TW (by omega) HT hW
    rw[hAK]at this
    exact this
   generalize jl x c p AK ps[k] TW=SV at*
   generalize ps[k]=TT at*
   have ha1:IntKind.i64.wrap ((a:Int)+1)=(A1:Int):=by rw[IntWalk.i64_in _ (by omega)];omega
   have ha2:IntKind.i64.wrap ((A1:Int)+(k:Int))=(AK:Int):=by rw[IntWalk.i64_in _ (by omega)];omega
   have hAn:AK<n:=by omega
   have HAK:=Lib.hid hAK
   obtain⟨yk,hyk⟩:=sS ho (k:=AK) (by rw[Ie (by simp;have:=HLL.out k hk;rw[U9.out];omega),U9.out];exact hAn)
   have hof:=kX ho
   have hgr:g<wr.heap.size:=ho.lt g rfl
   clear hA1 hAK HT hps0
   go_upto_region 7 with(fail)
   go_region_held3 (λw'=>(∀i,w'.cell? ⟨w.heap.size,i,none⟩= #[Value.int .u64 hh.base,.int .i64 hh.cap,.int .i64 hh.tt,.bool hh.dJ,.int .i64 hh.scan,.slice la ln lc,.slice ha hn hc,.slice oa wB oc,.slice fa fn fc,.slice ra rn rc,.slice ga gn gc,.slice qa qn qc,.slice ia inn ic,.slice ja jn jc][i]?)/\(∀i,w'.cell? ⟨w.heap.size+1,i,none⟩= #[Value.int .i64 p,.int .i64 a][i]?)/\(∀i,w'.cell? ⟨w.heap.size+2,i,none⟩= #[Value.slice (some ⟨pb,po,none⟩) NP pc,.slice da ND dc][i]?)/\w'.cell? ⟨pb,po+k,none⟩=some (.int .i64 TT))
    (first|(refine U7 (W:=w1) ?_ lB lP1 lN1 cB1 cP1 cN1 aav;exact bm))
    (first|(go_at_call 81;refine(QM.out _ (by exact bm)).mono ?_;rintro e w5 ⟨rfl,k5⟩;have kk:Below wr.heap.size wr w5:=(by exact bm);have XU:=ho.tr kk;have adh:=kX XU;have adi:=ah kk hyk;have hg5:=Nat.lt_of_lt_of_le hgr kk.size))
   have Va:=xP (k:=AK) XU SV
   rw[MW.out]at Va
   have b6:Below w1.heap.size w1 (w5.setCell ⟨g,AK,none⟩ (.int .u64 SV)):=by exact bm
   go_wp2_with fail
   exact⟨⟨k+1,by omega,by go_num,Va,b6⟩,by simp[intOf];omega⟩
  ·obtain rfl:k=NP:=by omega
   rw[HLF.out]at ho
   obtain⟨A1,hA1⟩:∃m,a+1=m:=⟨_,rfl⟩
   obtain⟨A2,hA2⟩:∃m,a+1+k=m:=⟨_,rfl⟩
   have ha1:IntKind.i64.wrap ((a:Int)+1)=(A1:Int):=by rw[IntWalk.i64_in _ (by omega)];omega
   have ha2:IntKind.i64.wrap ((A1:Int)+(k:Int))=(A2:Int):=by rw[IntWalk.i64_in _ (by omega)];omega
   have HLZ:Hid ((bZ x c p a tw 0 ps).length=k):=Lib.hid (by rw[jf];exact Lc.out)
   generalize bZ x c p a tw 0 ps=LF at*
   clear HSL HSK HLL hA1
   have HA2:=Lib.hid hA2
   clear hA2
   go_wp2_with fail
   go_loopw [13] (λi ws=>∃j:Nat,j<=ND/\i=.int .i64 j/\ak 24 1 oG ws w1.heap.size (.slice (some ⟨g,0,none⟩) n cap) (l9 P a (PK::(LF++ds.take j)))/\Below w1.heap.size w1 ws) (λi _=>ND-(intOf i).toNat)
   case atStart=>
    refine⟨0,Nat.zero_le _,rfl,?_,bel⟩
    rw[List.take_zero,List.append_nil]
    exact ho
   case round=>
    obtain⟨j,hj,rfl,hov,WL⟩:=hrel
    clear cB fB cP fP cN fN lB' lP' lN' ho bel
    have lB':w.heap.size<wr.heap.size:=by have:=WL.size;omega
    have lP':w.heap.size+1<wr.heap.size:=by have:=WL.size;omega
    have lN':w.heap.size+2<wr.heap.size:=by have:=WL.size;omega
    obtain⟨_,cB,fB⟩:=(KB.tr WL).get
    obtain⟨_,cP,fP⟩:=(KP.tr WL).get
    obtain⟨_,cN,fN⟩:=(KN.tr WL).get
    by_cases hlt2:j<ND
    ·obtain rfl:=d1 (by omega)
     have hds0:j<ds.length:=by rw[XT.out];exact hlt2
     have hdc:=ah (au hb1 WL) (HD6.out.at (i:=j) (List.getElem?_eq_getElem hds0) 0 (.int .u64 ds[j]) rfl)
     rw[Nat.mul_one,Nat.add_zero]at hdc
     have HDC:=Lib.hid (ah hb1 (HD6.out.at (i:=j) (List.getElem?_eq_getElem hds0) 0 (.int .u64 ds[j]) rfl))
     rw[Nat.mul_one,Nat.add_zero]at HDC
     obtain⟨AJ,hAJ⟩:∃m,a+1+k+j=m:=⟨_,rfl⟩
     have ha3:IntKind.i64.wrap ((A2:Int)+(j:Int))=(AJ:Int):=by have:=HA2.out;rw[IntWalk.i64_in _ (by omega)];omega
     have hAn:AJ<n:=by omega
     have MW:Hid ((l9 P a (PK::(LF++ds.take j))).set AJ ds[j]=l9 P a (PK::(LF++ds.take (j+1)))):=Lib.hid (by
      have h2:=HLZ.out
      have h3:(ds.take j).length=j:=by simp;omega
      rw[JQ (by simp[h2];omega) (by rw[U9.out];omega),List.take_succ_eq_append_getElem hds0]
      simp)
     have HAJ:=Lib.hid hAJ
     obtain⟨yk,hyk⟩:=sS hov (k:=AJ) (by rw[Ie (by simp;have:=HLZ.out;rw[U9.out];omega),U9.out];exact hAn)
     have hof:=kX hov
     have hgr:g<wr.heap.size:=hov.lt g rfl
     generalize ds[j]=DJ at*
     clear hAJ hds0
     go_upto_region 11 with(fail)
     go_region_held3 (λw'=>(∀i,w'.cell? ⟨w.heap.size,i,none⟩= #[Value.int .u64 hh.base,.int .i64 hh.cap,.int .i64 hh.tt,.bool hh.dJ,.int .i64 hh.scan,.slice la ln lc,.slice ha hn hc,.slice oa wB oc,.slice fa fn fc,.slice ra rn rc,.slice ga gn gc,.slice qa qn qc,.slice ia inn ic,.slice ja jn jc][i]?)/\(∀i,w'.cell? ⟨w.heap.size+1,i,none⟩= #[Value.int .i64 p,.int .i64 a][i]?)/\(∀i,w'.cell? ⟨w.heap.size+2,i,none⟩= #[Value.slice pa k pc,.slice (some ⟨db,dof,none⟩) ND dc][i]?)/\w'.cell? ⟨db,dof+j,none⟩=some (.int .u64 DJ))
      (first|(refine U7 (W:=w1) ?_ lB lP1 lN1 cB1 cP1 cN1 HDC.out;exact bm))
      (first|(fail))
     have Va:=xP (k:=AJ) hov DJ
     rw[MW.out]at Va
     have b6:Below w1.heap.size w1 (wr.setCell ⟨g,AJ,none⟩ (.int .u64 DJ)):=by exact bm
     go_wp2_with fail
     exact⟨⟨j+1,by omega,by go_num,Va.tr (kP (Below.refl _ _)),b6.drew⟩,by simp[intOf];omega⟩
    ·obtain rfl:j=ND:=by omega
     have HDT:Hid (ds.take j=ds):=Lib.hid (by rw[<-XT.out,List.take_length])
     rw[HDT.out]at hov
     go_wp2_with fail
     refine(QV.out _ _ _ _).mono ?_
     rintro e wz ⟨⟨⟨l1,l2,l3⟩,⟨m1,m2,m3⟩,⟨o1,o2,o3⟩,⟨f1,f2,f3⟩,⟨q1,q2,q3⟩,rfl,hsv⟩,kz⟩
     have MW:=Lib.hid hsv
     clear hsv
     have bz:Below w1.heap.size w1 wz:=au WL kz
     have KBz:=KB.tr bz
     have KRz:=KR.tr bz
     have hoz:=hov.tr kz
     obtain⟨lz,cz,fz⟩:=KBz.get
     clear cB fB cP fP cN fN lB' lP' lN' cB1 cP1 cN1
     go_upto_region 13 with(fail)
     have h03:w.heap.size+1+1+1≠w.heap.size:=by omega
     have hlow:w.heap.size<w1.heap.size:=lB
     have qY:w.heap.size+1+1+1<w1.heap.size:=KR.lt
     have KB2:=((((((((((KBz.set 0 (.int .u64 hh.base)).set 1 (.int .i64 hh.cap)).set 2 (.int .i64 hh.tt)).set 3 (.bool hh.dJ)).set 4 (.int .i64 hh.scan)).set 5 (.slice l1 l2 l3)).set 6 (.slice m1 m2 m3)).set 7 (.slice o1 o2 o3)).set 8 (.slice f1 f2 f3)).set 9 (.slice q1 q2 q3))
     have KR2:=((((((((((KRz.other (p:=⟨w.heap.size,0,none⟩) h03 (.int .u64 hh.base)).other (p:=⟨w.heap.size,1,none⟩) h03 (.int .i64 hh.cap)).other (p:=⟨w.heap.size,2,none⟩) h03 (.int .i64 hh.tt)).other (p:=⟨w.heap.size,3,none⟩) h03 (.bool hh.dJ)).other (p:=⟨w.heap.size,4,none⟩) h03 (.int .i64 hh.scan)).other (p:=⟨w.heap.size,5,none⟩) h03 (.slice l1 l2 l3)).other (p:=⟨w.heap.size,6,none⟩) h03 (.slice m1 m2 m3)).other (p:=⟨w.heap.size,7,none⟩) h03 (.slice o1 o2 o3)).other (p:=⟨w.heap.size,8,none⟩) h03 (.slice f1 f2 f3)).other (p:=⟨w.heap.size,9,none⟩) h03 (.slice q1 q2 q3))
     have ho2:=(ak.aU (ak.aU (ak.aU (ak.aU (ak.aU (ak.aU (ak.aU (ak.aU (ak.aU (ak.aU hoz (p:=⟨w.heap.size,0,none⟩) hlow (.int .u64 hh.base)) (p:=⟨w.heap.size,1,none⟩) hlow (.int .i64 hh.cap)) (p:=⟨w.heap.size,2,none⟩) hlow (.int .i64 hh.tt)) (p:=⟨w.heap.size,3,none⟩) hlow (.bool hh.dJ)) (p:=⟨w.heap.size,4,none⟩) hlow (.int .i64 hh.scan)) (p:=⟨w.heap.size,5,none⟩) hlow (.slice l1 l2 l3)) (p:=⟨w.heap.size,6,none⟩) hlow (.slice m1 m2 m3)) (p:=⟨w.heap.size,7,none⟩) hlow (.slice o1 o2 o3)) (p:=⟨w.heap.size,8,none⟩) hlow (.slice f1 f2 f3)) (p:=⟨w.heap.size,9,none⟩) hlow (.slice q1 q2 q3))
     have be2:Below w.heap.size w _:=(low_set (low_set (low_set (low_set (low_set (low_set (low_set (low_set (low_set (low_set (au hb1 (au WL kz)) (p:=⟨w.heap.size,0,none⟩) (Nat.le_refl _) (.int .u64 hh.base)) (p:=⟨w.heap.size,1,none⟩) (Nat.le_refl _) (.int .i64 hh.cap)) (p:=⟨w.heap.size,2,none⟩) (Nat.le_refl _) (.int .i64 hh.tt)) (p:=⟨w.heap.size,3,none⟩) (Nat.le_refl _) (.bool hh.dJ)) (p:=⟨w.heap.size,4,none⟩) (Nat.le_refl _) (.int .i64 hh.scan)) (p:=⟨w.heap.size,5,none⟩) (Nat.le_refl _) (.slice l1 l2 l3)) (p:=⟨w.heap.size,6,none⟩) (Nat.le_refl _) (.slice m1 m2 m3)) (p:=⟨w.heap.size,7,none⟩) (Nat.le_refl _) (.slice o1 o2 o3)) (p:=⟨w.heap.size,8,none⟩) (Nat.le_refl _) (.slice f1 f2 f3)) (p:=⟨w.heap.size,9,none⟩) (Nat.le_refl _) (.slice q1 q2 q3))
     clear KBz KRz hoz lz cz fz hov WL bz kz
     generalize((((((((((wz.setCell ⟨w.heap.size,0,none⟩ (.int .u64 hh.base)).setCell ⟨w.heap.size,1,none⟩ (.int .i64 hh.cap)).setCell ⟨w.heap.size,2,none⟩ (.int .i64 hh.tt)).setCell ⟨w.heap.size,3,none⟩ (.bool hh.dJ)).setCell ⟨w.heap.size,4,none⟩ (.int .i64 hh.scan)).setCell ⟨w.heap.size,5,none⟩ (.slice l1 l2 l3)).setCell ⟨w.heap.size,6,none⟩ (.slice m1 m2 m3)).setCell ⟨w.heap.size,7,none⟩ (.slice o1 o2 o3)).setCell ⟨w.heap.size,8,none⟩ (.slice f1 f2 f3)).setCell ⟨w.heap.size,9,none⟩ (.slice q1 q2 q3))=W2 at*
     simp only[List.setIfInBounds_toArray,List.set_cons_zero,List.set_cons_succ]at KB2
     obtain⟨lz,cz,fz⟩:=KB2.get
     obtain⟨lr,cr,fr⟩:=KR2.get
     go_wp2_with fail
     have h30:w.heap.size<=w.heap.size+1+1+1:=by omega
     have KR3:=((((((((((((((KR2.set 0 (.int .u64 hh.base)).set 1 (.int .i64 hh.cap)).set 2 (.int .i64 hh.tt)).set 3 (.bool hh.dJ)).set 4 (.int .i64 hh.scan)).set 5 (.slice l1 l2 l3)).set 6 (.slice m1 m2 m3)).set 7 (.slice o1 o2 o3)).set 8 (.slice f1 f2 f3)).set 9 (.slice q1 q2 q3)).set 10 (.slice ga gn gc)).set 11 (.slice qa qn qc)).set 12 (.slice ia inn ic)).set 13 (.slice ja jn jc))
     have ho3:=(ak.aU (ak.aU (ak.aU (ak.aU (ak.aU (ak.aU (ak.aU (ak.aU (ak.aU (ak.aU (ak.aU (ak.aU (ak.aU (ak.aU ho2 (p:=⟨w.heap.size+1+1+1,0,none⟩) qY (.int .u64 hh.base)) (p:=⟨w.heap.size+1+1+1,1,none⟩) qY (.int .i64 hh.cap)) (p:=⟨w.heap.size+1+1+1,2,none⟩) qY (.int .i64 hh.tt)) (p:=⟨w.heap.size+1+1+1,3,none⟩) qY (.bool hh.dJ)) (p:=⟨w.heap.size+1+1+1,4,none⟩) qY (.int .i64 hh.scan)) (p:=⟨w.heap.size+1+1+1,5,none⟩) qY (.slice l1 l2 l3)) (p:=⟨w.heap.size+1+1+1,6,none⟩) qY (.slice m1 m2 m3)) (p:=⟨w.heap.size+1+1+1,7,none⟩) qY (.slice o1 o2 o3)) (p:=⟨w.heap.size+1+1+1,8,none⟩) qY (.slice f1 f2 f3)) (p:=⟨w.heap.size+1+1+1,9,none⟩) qY (.slice q1 q2 q3)) (p:=⟨w.heap.size+1+1+1,10,none⟩) qY (.slice ga gn gc)) (p:=⟨w.heap.size+1+1+1,11,none⟩) qY (.slice qa qn qc)) (p:=⟨w.heap.size+1+1+1,12,none⟩) qY (.slice ia inn ic)) (p:=⟨w.heap.size+1+1+1,13,none⟩) qY (.slice ja jn jc))
     have be3:=(low_set (low_set (low_set (low_set (low_set (low_set (low_set (low_set (low_set (low_set (low_set (low_set (low_set (low_set be2 (p:=⟨w.heap.size+1+1+1,0,none⟩) h30 (.int .u64 hh.base)) (p:=⟨w.heap.size+1+1+1,1,none⟩) h30 (.int .i64 hh.cap)) (p:=⟨w.heap.size+1+1+1,2,none⟩) h30 (.int .i64 hh.tt)) (p:=⟨w.heap.size+1+1+1,3,none⟩) h30 (.bool hh.dJ)) (p:=⟨w.heap.size+1+1+1,4,none⟩) h30 (.int .i64 hh.scan)) (p:=⟨w.heap.size+1+1+1,5,none⟩) h30 (.slice l1 l2 l3)) (p:=⟨w.heap.size+1+1+1,6,none⟩) h30 (.slice m1 m2 m3)) (p:=⟨w.heap.size+1+1+1,7,none⟩) h30 (.slice o1 o2 o3)) (p:=⟨w.heap.size+1+1+1,8,none⟩) h30 (.slice f1 f2 f3)) (p:=⟨w.heap.size+1+1+1,9,none⟩) h30 (.slice q1 q2 q3)) (p:=⟨w.heap.size+1+1+1,10,none⟩) h30 (.slice ga gn gc)) (p:=⟨w.heap.size+1+1+1,11,none⟩) h30 (.slice qa qn qc)) (p:=⟨w.heap.size+1+1+1,12,none⟩) h30 (.slice ia inn ic)) (p:=⟨w.heap.size+1+1+1,13,none⟩) h30 (.slice ja jn jc))
     clear KR2 ho2 be2 lz cz fz lr cr fr KB2
     generalize((((((((((((((W2.setCell ⟨w.heap.size+1+1+1,0,none⟩ (.int .u64 hh.base)).setCell ⟨w.heap.size+1+1+1,1,none⟩ (.int .i64 hh.cap)).setCell ⟨w.heap.size+1+1+1,2,none⟩ (.int .i64 hh.tt)).setCell ⟨w.heap.size+1+1+1,3,none⟩ (.bool hh.dJ)).setCell ⟨w.heap.size+1+1+1,4,none⟩ (.int .i64 hh.scan)).setCell ⟨w.heap.size+1+1+1,5,none⟩ (.slice l1 l2 l3)).setCell ⟨w.heap.size+1+1+1,6,none⟩ (.slice m1 m2 m3)).setCell ⟨w.heap.size+1+1+1,7,none⟩ (.slice o1 o2 o3)).setCell ⟨w.heap.size+1+1+1,8,none⟩ (.slice f1 f2 f3)).setCell ⟨w.heap.size+1+1+1,9,none⟩ (.slice q1 q2 q3)).setCell ⟨w.heap.size+1+1+1,10,none⟩ (.slice ga gn gc)).setCell ⟨w.heap.size+1+1+1,11,none⟩ (.slice qa qn qc)).setCell ⟨w.heap.size+1+1+1,12,none⟩ (.slice ia inn ic)).setCell ⟨w.heap.size+1+1+1,13,none⟩ (.slice ja jn jc))=W3 at*
     simp only[List.setIfInBounds_toArray,List.set_cons_zero,List.set_cons_succ]at KR3
     obtain⟨lr,cr,fr⟩:=KR3.get
     refine bodyPost_ret (v:=.agg #[Value.int .u64 hh.base,.int .i64 hh.cap,.int .i64 hh.tt,.bool hh.dJ,.int .i64 hh.scan,.slice l1 l2 l3,.slice m1 m2 m3,.slice o1 o2 o3,.slice f1 f2 f3,.slice q1 q2 q3,.slice ga gn gc,.slice qa qn qc,.slice ia inn ic,.slice ja jn jc]) (by simp only[results,Tryz.results58];go_simp) rfl ⟨⟨.slice (some ⟨g,0,none⟩) n cap,?_,by rw[HLF.out];exact ak.lift ho3 (Nat.le_of_lt hlow)⟩,be3⟩
     rw[MW.out]
end Go.Proofs.YtpgjploaliefdaaGreat.rh
namespace Go.Proofs.YtpgjploaliefdaaGreat.rh
open Go Go.RowKit hp ob hd cp ck gr lx
set_option linter.unusedVariables false
set_option linter.unusedSimpArgs false
def qK(l:List Int)(n:Nat):List Int:=l++List.replicate (n-l.length) 0
theorem zX{l:List Int}{n:Nat}(h:l.length<=n):(qK l n).length=n:=by unfold qK;simp;omega
theorem Eu{l ws:List Int}{a n:Nat}(hl:l.length=a)(h:a+ws.length<=n):l9 (qK l n) a ws=qK (l++ws) n:=by
 subst hl
 unfold l9 qK
 rw[List.take_left,List.drop_append,List.drop_of_length_le (by omega),List.nil_append,List.drop_replicate,List.length_append]
 congr 2
 omega
theorem QW{l:List Int}{s n:Nat}(h:l.length+s<=n):qK (l++List.replicate s 0) n=qK l n:=by
 unfold qK
 rw[List.append_assoc,List.length_append,List.length_replicate,List.replicate_append_replicate]
 congr 2
 omega
def mg(x:Rh)(c:Bool)(i:Nat):Hp:=⟨(dW x c).base,(dW x c).cap,(dW x c).tt,c,iU x c,qK (wordsOf (je x c 1 i)) (hof x c 1 (nN x)),qK (wordsOf (je x c 2 i)) (hof x c 2 (nN x)),qK (wordsOf (fE x c 3 i)) (aY x c 3 (nN x)),qK (wordsOf (fE x c 4 i)) (aY x c 4 (nN x)),[]⟩
theorem Vb(x:Rh)(c:Bool):mg x c 0=aO x c:=by
 unfold mg aO je fE pieces
 simp[wordsOf,qK]
theorem Vd(x:Rh)(c:Bool):(mg x c (nN x)).low=(bF x c).low/\(mg x c (nN x)).high=(bF x c).high/\(mg x c (nN x)).old=(bF x c).old/\(mg x c (nN x)).far=(bF x c).far:=by
 have key:∀(l:List Int)(n:Nat),l.length=n->qK l n=l:=λl n h=>by unfold qK;rw[h];simp
 exact⟨key _ _ (hlen x c 1 _),key _ _ (hlen x c 2 _),key _ _ (AB x c 3 _),key _ _ (AB x c 4 _)⟩
theorem zY(x:Rh)(c:Bool){i:Nat}(hi:i<=nN x)(p:Nat):((mg x c i).part p).length=if p=1 then hof x c 1 (nN x)else if p=2 then hof x c 2 (nN x)else if p=3 then aY x c 3 (nN x)else aY x c 4 (nN x):=by
 have h1:(wordsOf (je x c 1 i)).length<=hof x c 1 (nN x):=by rw[hlen];exact mX _ _ _ hi
 have h2:(wordsOf (je x c 2 i)).length<=hof x c 2 (nN x):=by rw[hlen];exact mX _ _ _ hi
 have h3:(wordsOf (fE x c 3 i)).length<=aY x c 3 (nN x):=by rw[AB];exact mX _ _ _ hi
 have h4:(wordsOf (fE x c 4 i)).length<=aY x c 4 (nN x):=by rw[AB];exact mX _ _ _ hi
 unfold Hp.part mg
 repeat' split
 all_goals first
  |exact zX h1
  |exact zX h2
  |exact zX h3
  |exact zX h4
def WM(c:Pc):List Int:=c.h::c.ys
theorem Bq(c:Pc):wordsOf [c]=WM c:=by simp[wordsOf,WM]
theorem og{x:Rh}{c:Bool}{p i:Nat}(h:hpt x c i≠p):je x c p (i+1)=je x c p i:=by
 unfold je;rw[pieces_succ,if_neg h,List.append_nil]
theorem sV{x:Rh}{c:Bool}{p i:Nat}(h:opt x c i≠p):fE x c p (i+1)=fE x c p i:=by
 unfold fE;rw[pieces_succ,if_neg h,List.append_nil]
theorem aaw{x:Rh}{c:Bool}{p i:Nat}(h:hpt x c i=p)(hi:i<nN x):l9 (qK (wordsOf (je x c p i)) (hof x c p (nN x))) (hof x c p i) (WM (La x c i))=qK (wordsOf (je x c p (i+1))) (hof x c p (nN x)):=by
 have e:je x c p (i+1)=je x c p i++[La x c i]:=by unfold je;rw[pieces_succ,if_pos h]
 have:=oW (z:=iF x) (q:=hpt x c) hi h
 rw[e,nX,Bq,Eu (hlen x c p i)]
 have h2:=(DL x c i).2
 unfold WM
 rw[List.length_cons,h2]
 unfold hof
 omega
theorem adl{x:Rh}{c:Bool}{p i:Nat}(h:opt x c i=p)(hi:i<nN x):l9 (qK (wordsOf (fE x c p i)) (aY x c p (nN x))) (aY x c p i) (WM (vk x c i))=qK (wordsOf (fE x c p (i+1))) (aY x c p (nN x)):=by
 have e:fE x c p (i+1)=fE x c p i++[vk x c i]:=by unfold fE;rw[pieces_succ,if_pos h]
 have:=oW (z:=iF x) (q:=opt x c) hi h
 rw[e,nX,Bq,Eu (AB x c p i)]
 have h2:=(BP x c i).2
 unfold WM
 rw[List.length_cons,h2]
 unfold aY
 omega
theorem QX{x:Rh}{c:Bool}{p i:Nat}(h:opt x c i=p)(h0:0<hpt x c i)(hi:i<nN x):(qK (wordsOf (fE x c p i)) (aY x c p (nN x))).set (aY x c p i) (hrf x c i)=qK (wordsOf (fE x c p (i+1))) (aY x c p (nN x)):=by
 have e:fE x c p (i+1)=fE x c p i++[vk x c i]:=by unfold fE;rw[pieces_succ,if_pos h]
 have e2:vk x c i=⟨hrf x c i,iF x i,(bf x i).length,true,List.replicate (iF x i) 0⟩:=if_pos h0
 have:=oW (z:=iF x) (q:=opt x c) hi h
 have hl:=AB x c p i
 have hn:aY x c p i+1+iF x i<=aY x c p (nN x):=this
 rw[OO (by rw[zX (by omega)];omega),Eu hl (by simp;omega),e,nX,Bq,e2]
 unfold WM
 show _=qK (wordsOf (fE x c p i)++hrf x c i::List.replicate (iF x i) 0) _
 rw[show wordsOf (fE x c p i)++hrf x c i::List.replicate (iF x i) 0=(wordsOf (fE x c p i)++[hrf x c i])++List.replicate (iF x i) 0 by simp,QW (by simp;omega)]
theorem aax{x:Rh}{c:Bool}{i p:Nat}(hi:i<nN x)(hp:hpt x c i=p)(h0:0<p)(ho:opt x c i=0):setH (mg x c i) p (l9 ((mg x c i).part p) (hof x c p i) (WM (La x c i)))=mg x c (i+1):=by
 have:=um x c i
 have e3:=sV (x:=x) (c:=c) (p:=3) (i:=i) (by omega)
 have e4:=sV (x:=x) (c:=c) (p:=4) (i:=i) (by omega)
 rcases(show p=1\/p=2 by omega)with rfl|rfl
 ·have e2:=og (x:=x) (c:=c) (p:=2) (i:=i) (by omega)
  have k:=aaw hp hi
  unfold setH Hp.part mg
  simp only[if_true]
  rw[k,e2,e3,e4]
 ·have e2:=og (x:=x) (c:=c) (p:=1) (i:=i) (by omega)
  have k:=aaw hp hi
  unfold setH Hp.part mg
  simp only[if_true,show¬(2=1) by decide,if_false]
  rw[k,e2,e3,e4]
theorem aay{x:Rh}{c:Bool}{i p:Nat}(hi:i<nN x)(hp:opt x c i=p)(h0:0<p)(ho:hpt x c i=0):setH (mg x c i) p (l9 ((mg x c i).part p) (aY x c p i) (WM (vk x c i)))=mg x c (i+1):=by
 have:=mY x c i
 have e3:=og (x:=x) (c:=c) (p:=1) (i:=i) (by omega)
 have e4:=og (x:=x) (c:=c) (p:=2) (i:=i) (by omega)
 rcases(show p=3\/p=4 by omega)with rfl|rfl
 ·have e2:=sV (x:=x) (c:=c) (p:=4) (i:=i) (by omega)
  have k:=adl hp hi
  unfold setH Hp.part mg
  simp only[if_true,show¬(3=1) by decide,show¬(3=2) by decide,if_false]
  rw[k,e2,e3,e4]
 ·have e2:=sV (x:=x) (c:=c) (p:=3) (i:=i) (by omega)
  have k:=adl hp hi
  unfold setH Hp.part mg
  simp only[if_true,show¬(4=1) by decide,show¬(4=2) by decide,show¬(4=3) by decide,if_false]
  rw[k,e2,e3,e4]
def OT(x:Rh)(c:Bool)(i:Nat):Hp:=setH (mg x c i) (hpt x c i) (l9 ((mg x c i).part (hpt x c i)) (hof x c (hpt x c i) i) (WM (La x c i)))
theorem JV{x:Rh}{c:Bool}{i p:Nat}(h0:0<hpt x c i)(hp:3<=p):(OT x c i).part p=(mg x c i).part p:=by
 have:=um x c i
 unfold OT setH Hp.part
 rw[if_neg (show¬p=1 by omega),if_neg (show¬p=2 by omega),if_neg (show¬p=1 by omega),if_neg (show¬p=2 by omega)]
 rcases(show hpt x c i=1\/hpt x c i=2 by omega)with h|h<;>rw[h]<;>rfl
theorem aaz{x:Rh}{c:Bool}{i p:Nat}(hi:i<nN x)(h0:0<hpt x c i)(hp:opt x c i=p)(hp3:3<=p):setH (OT x c i) p (((mg x c i).part p).set (aY x c p i) (hrf x c i))=mg x c (i+1):=by
 have h2:=um x c i
 have h4:=mY x c i
 have k:=QX hp h0 hi
 have k2:=aaw rfl hi (x:=x) (c:=c)
 rcases(show p=3\/p=4 by omega)with rfl|rfl
 ·have e4:=sV (x:=x) (c:=c) (p:=4) (i:=i) (by omega)
  rcases(show hpt x c i=1\/hpt x c i=2 by omega)with h|h
  ·have e2:=og (x:=x) (c:=c) (p:=2) (i:=i) (by omega)
   rw[h]at k2
   unfold OT setH Hp.part mg
   rw[h]
   simp only[if_true,show¬(3=1) by decide,show¬(3=2) by decide,if_false]
   rw[k,k2,e2,e4]
  ·have e2:=og (x:=x) (c:=c) (p:=1) (i:=i) (by omega)
   rw[h]at k2
   unfold OT setH Hp.part mg
   rw[h]
   simp only[if_true,show¬(3=1) by decide,show¬(3=2) by decide,show¬(2=1) by decide,if_false]
   rw[k,k2,e2,e4]
 ·have e4:=sV (x:=x) (c:=c) (p:=3) (i:=i) (by omega)
  rcases(show hpt x c i=1\/hpt x c i=2 by omega)with h|h
  ·have e2:=og (x:=x) (c:=c) (p:=2) (i:=i) (by omega)
   rw[h]at k2
   unfold OT setH Hp.part mg
   rw[h]
   simp only[if_true,show¬(4=1) by decide,show¬(4=2) by decide,show¬(4=3) by decide,if_false]
   rw[k,k2,e2,e4]
  ·have e2:=og (x:=x) (c:=c) (p:=1) (i:=i) (by omega)
   rw[h]at k2
   unfold OT setH Hp.part mg
   rw[h]
   simp only[if_true,show¬(4=1) by decide,show¬(4=2) by decide,show¬(4=3) by decide,show¬(2=1) by decide,if_false]
   rw[k,k2,e2,e4]
theorem Bv{zs:List Int}:Small zs↔∀y∈zs,0<=y/\y<18446744073709551616:=by
 constructor
 ·intro h y hy
  obtain⟨i,hi,rfl⟩:=List.getElem_of_mem hy
  have:=h i
  rwa[List.getD_eq_getElem?_getD,List.getElem?_eq_getElem hi]at this
 ·intro h i
  rw[List.getD_eq_getElem?_getD]
  rcases Nat.lt_or_ge i zs.length with hi|hi
  ·rw[List.getElem?_eq_getElem hi]
   exact h _ (List.getElem_mem hi)
  ·rw[List.getElem?_eq_none hi]
   exact⟨by decide,by decide⟩
theorem qZ{l:List Pc}(hg:ob.Good l):Small (wordsOf l):=by
 rw[Bv]
 intro y hy
 unfold wordsOf at hy
 obtain⟨d,hd,hy⟩:=List.mem_flatMap.1 hy
 have hd:=hg d hd
 rcases List.mem_cons.1 hy with rfl|hy
 ·cases hg2:d.g with
  |false=>
   rw[(hd.new hg2).1]
   have h1:=hd.s6
   have h2:=hd.ps
   unfold bV
   split<;>omega
  |true=>
   obtain⟨t,h1,h2,h3,_⟩:=hd.gone hg2
   omega
 ·exact Bv.1 hd.small y hy
theorem Na{x:Rh}(ok:jT x)(c:Bool):Small ((bI x).map (uQ x c)):=by
 rw[Bv]
 intro y hy
 obtain⟨r,hr,rfl⟩:=List.mem_map.1 hy
 have:=AO x r hr
 unfold uQ
 split
 ·exact((LW x c (by omega)).ptr ok.base.1).2
 ·exact⟨by decide,by decide⟩
theorem Ew{α:Type}{k:Nat}{en:α->List Value}{W:World}{v:Value}{zs:List α}(h:fH k en W v zs):∃a c,v=.slice a zs.length c:=by
 obtain⟨ad,b,off,cap,e,_⟩:=h.form
 exact⟨_,_,e⟩
theorem y8.put{W:World}{x:Rh}{c:Bool}{h:Hp}{v:Hv}{gs qs hs os:Sl}(a:y8 W x c h v gs qs hs os){p:Nat}{u:Value}{z:List Int}(hu:fH 1 oG W u z)(hl:z.length=(h.part p).length):y8 W x c (setH h p z) (vg v p u) gs qs hs os:=by
 obtain⟨⟨b1,b2,⟨f1,f2,f3,f4,f5⟩,b4,b5⟩,a2,a3,a4,a5,a6,a7,a8⟩:=a
 obtain⟨ua,uc,eu⟩:=Ew hu
 unfold Hp.part at hl
 unfold setH vg
 by_cases h1:p=1
 ·subst h1
  rw[if_pos rfl]at hl
  rw[if_pos rfl,if_pos rfl]
  exact⟨⟨by rw[<-b1];unfold Hp.lay;simp only[hl],b2,⟨⟨ua,uc,eu⟩,f2,f3,f4,f5⟩,b4,b5⟩,a2,a3,hu,a5,a6,a7,a8⟩
 by_cases h2:p=2
 ·subst h2
  rw[if_neg h1,if_pos rfl]at hl
  rw[if_neg h1,if_pos rfl,if_neg h1,if_pos rfl]
  exact⟨⟨by rw[<-b1];unfold Hp.lay;simp only[hl],b2,⟨f1,⟨ua,uc,eu⟩,f3,f4,f5⟩,b4,b5⟩,a2,a3,a4,hu,a6,a7,a8⟩
 by_cases h3:p=3
 ·subst h3
  rw[if_neg h1,if_neg h2,if_pos rfl]at hl
  rw[if_neg h1,if_neg h2,if_pos rfl,if_neg h1,if_neg h2,if_pos rfl]
  exact⟨⟨by rw[<-b1];unfold Hp.lay;simp only[hl],b2,⟨f1,f2,⟨ua,uc,eu⟩,f4,f5⟩,b4,b5⟩,a2,a3,a4,a5,hu,a7,a8⟩
 ·rw[if_neg h1,if_neg h2,if_neg h3]at hl
  rw[if_neg h1,if_neg h2,if_neg h3,if_neg h1,if_neg h2,if_neg h3]
  exact⟨⟨by rw[<-b1];unfold Hp.lay;simp only[hl],b2,⟨f1,f2,f3,⟨ua,uc,eu⟩,f5⟩,b4,b5⟩,a2,a3,a4,a5,a6,hu,a8⟩
theorem y8.part{W:World}{x:Rh}{c:Bool}{h:Hp}{v:Hv}{gs qs hs os:Sl}(a:y8 W x c h v gs qs hs os)(p:Nat):fH 1 oG W (v.part p) (h.part p):=by
 unfold Hp.part Hv.part
 repeat' split
 ·exact a.l
 ·exact a.hi
 ·exact a.o
 ·exact a.f
theorem XV{W:World}{x:Rh}{c:Bool}{v:Hv}{gs qs hs os:Sl}(ok:jT x)(F:y8 W x c (mg x c (nN x)) v gs qs hs os){rv:Value}(hr:fH 1 oG W rv ((bI x).map (uQ x c)))(h0:0<W.heap.size):kH W (bF x c) {v with r:=rv}:=by
 obtain⟨e1,e2,e3,e4⟩:=Vd x c
 have hL:=pX (pK ok.base.1 c)
 have h9:=DN x
 have k1:(bF x c).low.length<=90:=by show(wordsOf (je x c 1 (nN x))).length<=90;rw[hlen];have:=DR x c;omega
 have k2:(bF x c).high.length<=90:=by show(wordsOf (je x c 2 (nN x))).length<=90;rw[hlen];have:=DR x c;omega
 have k3:(bF x c).old.length<=90:=by show(wordsOf (fE x c 3 (nN x))).length<=90;rw[AB];have:=Hl x c;omega
 have k4:(bF x c).far.length<=90:=by show(wordsOf (fE x c 4 (nN x))).length<=90;rw[AB];have:=Hl x c;omega
 have k5:((bI x).map (uQ x c)).length<=5:=by rw[List.length_map];exact AU (x:=x)
 have hs:=Oz x c
 have hh:=DR x c
 refine⟨⟨?_,?_⟩,⟨?_,?_⟩,⟨?_,?_⟩,⟨?_,?_⟩,?_,?_,?_,?_,?_,qZ (AP ok c 1),qZ (AP ok c 2),qZ (xG ok c 3),qZ (xG ok c 4),Na ok c⟩
 ·show 0<=(dW x c).base;omega
 ·show(dW x c).base<_;omega
 ·show _<=(dW x c).cap;omega
 ·show(dW x c).cap<_;omega
 ·show _<=(dW x c).tt;omega
 ·show(dW x c).tt<_;omega
 ·show _<=(iU x c:Int);omega
 ·show(iU x c:Int)<_;omega
 ·exact lV (by rw[<-e1];exact F.l) h0 (by omega)
 ·exact lV (by rw[<-e2];exact F.hi) h0 (by omega)
 ·exact lV (by rw[<-e3];exact F.o) h0 (by omega)
 ·exact lV (by rw[<-e4];exact F.f) h0 (by omega)
 ·exact lV hr h0 (Nat.lt_of_le_of_lt k5 (by decide))
end Go.Proofs.YtpgjploaliefdaaGreat.rh
