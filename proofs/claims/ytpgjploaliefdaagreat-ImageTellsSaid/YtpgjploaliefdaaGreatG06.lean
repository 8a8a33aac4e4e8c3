/- Layer 8's raw graphs: the walk. No conditions. -/
import Derived.Test.YtpgjploaliefdaaGreatTk
import Derived.Test.YtpgjploaliefdaaGreatG05
import Derived.Test.YtpgjploaliefdaaGreatLu
import Derived.Deep.DeepCutAuto
import Derived.Deep.CutRange
import Derived.Deep.RegionHeld3
namespace Go.Proofs.YtpgjploaliefdaaGreat.rh
open Go Go.RowKit lx hp ob hd cp gr
set_option linter.unusedVariables false
set_option linter.unusedSimpArgs false
set_option maxRecDepth 100000
set_option maxHeartbeats 4000000
abbrev Sl:=Option Addr×Nat×Nat
def aS(s:Sl):Value:=.slice s.1 s.2.1 s.2.2
def Qk(v:Sl×Sl):List Value:=[aS v.1,aS v.2]
theorem zL(x:Sl×Sl):(Qk x).length=2:=rfl
def lW(W:World)(a:Sl×Sl)(b:List Int×List Int):Prop:=fH 1 zK W (aS a.1) b.1/\fH 1 oG W (aS a.2) b.2
def nM(W:World)(v:Value)(l:List (List Int×List Int)):Prop:=∃vs:List (Sl×Sl),vs.length=l.length/\fH 2 Qk W v vs/\∀(i:Nat)(a:Sl×Sl)(b:List Int×List Int),vs[i]? =some a->l[i]? =some b->lW W a b
theorem lW.tr{W w:World}{a:Sl×Sl}{b:List Int×List Int}(h:lW W a b)(hb:Below W.heap.size W w):lW w a b:=⟨h.1.tr hb,h.2.tr hb⟩
theorem nM.tr{W w:World}{v:Value}{l:List (List Int×List Int)}(h:nM W v l)(hb:Below W.heap.size W w):nM w v l:=by
 obtain⟨vs,h1,h2,h3⟩:=h
 exact⟨vs,h1,h2.tr hb,λi a b ha hb'=>(h3 i a b ha hb').tr hb⟩
def Safe(W:World)(g:Nat)(r:Option Nat)(P:World->Prop):Prop:=∀W':World,W.heap.size<=W'.heap.size->(∀j,j<W.heap.size->g<j->r≠some j->W'.heap[j]? =W.heap[j]?)->P W'
theorem Safe.now{W:World}{g:Nat}{r:Option Nat}{P:World->Prop}(h:Safe W g r P):P W:=h W (Nat.le_refl _) λ_ _ _ _=>rfl
theorem Safe.go{W W1:World}{g:Nat}{r r':Option Nat}{P:World->Prop}(h:Safe W g r P)(hs:W.heap.size<=W1.heap.size)(hg:∀j,j<W.heap.size->g<j->r≠some j->W1.heap[j]? =W.heap[j]?)(hr:∀j,j<W.heap.size->r'=some j->r=some j):Safe W1 g r' P:=λW' hs' hg'=>h W' (Nat.le_trans hs hs') λj hj h1 h2=>(hg' j (Nat.lt_of_lt_of_le hj hs) h1 (λe=>h2 (hr j hj e))).trans (hg j hj h1 h2)
theorem Safe.tr{W W1:World}{g:Nat}{r:Option Nat}{P:World->Prop}(h:Safe W g r P)(hb:Below W.heap.size W W1):Safe W1 g r P:=h.go hb.size (λj hj _ _=>hb.block j hj) (λj _ e=>e)
theorem Safe.row{W W1:World}{g:Nat}{v v':Value}{P:World->Prop}(h:Safe W g v.ownBlock P)(hg:W.grownBy W1 v.ownBlock)(hat:v'.ownBlock=v.ownBlock\/v'.ownBlock=some W.heap.size):Safe W1 g v'.ownBlock P:=h.go hg.size (λj hj _ h2=>hg.block j hj (λe=>h2 e.symm)) λj hj e=>by
 rcases hat with h|h
 ·rw[<-h];exact e
 ·rw[h]at e;cases e;omega
theorem Safe.set{W:World}{g:Nat}{r:Option Nat}{P:World->Prop}(h:Safe W g r P){p:Addr}(hp:p.block<=g)(u:Value):Safe (W.setCell p u) g r P:=h.go (by simp[World.setCell]) (λj hj h1 h2=>Below.heap_setCell W p u j (by omega)) (λj _ e=>e)
theorem yF{W W':World}{b o:Nat}(h:W'.heap[b]? =W.heap[b]?):W'.cell? ⟨b,o,none⟩=W.cell? ⟨b,o,none⟩:=by simp[World.cell?,h]
theorem vU{α:Type}{k:Nat}{en:α->List Value}(hk:∀x:α,(en x).length=k){T:TypeId}{W:World}{B g:Nat}{v:Value}{zs:List α}(h:ak T k en W B v zs)(hg:g<B){r:Option Nat}(hr:∀j,r=some j->j<B):Safe W g r λW'=>fH k en W' v zs:=λW' hs hb=>by
 obtain⟨ad,cap,rfl,h1,h2,h3,h4⟩:=h.form hk
 rcases Nat.eq_zero_or_pos zs.length with hz|hz
 ·have:zs=[]:=List.eq_nil_of_length_eq_zero hz
  subst this
  exact fH.mk (ad:=ad) (b:=0) (off:=0) (cap:=cap) rfl (λh=>by simp at h) h3 (Nat.zero_le _) h2 (λh=>by simp at h) (λi j x y hx=>by simp at hx)
 ·obtain⟨b,rfl,h5,h6,h7⟩:=h4 hz
  refine fH.mk (ad:=some ⟨b,0,none⟩) (b:=b) (off:=0) (cap:=cap) rfl (λ_=>rfl) h3 h1 h2 (λ_=>by omega) λi j x y hx hy=> ?_
  rw[yF (hb b h6 (by omega) (λe=>by have:=hr b e;omega)),Nat.zero_add]
  exact h7 i j x y hx hy
theorem fH.upto{α:Type}{k:Nat}{en:α->List Value}{W:World}{ad:Option Addr}{n cap:Nat}{zs:List α}(h:fH k en W (.slice ad n cap) zs){m:Nat}(hm:m<=n):fH k en W (.slice ad m cap) (zs.take m):=by
 obtain⟨ad',b,off,cap',e,h1,h2,h3,h4,h5,h6⟩:=h.form
 cases e
 refine fH.mk (ad:=ad) (b:=b) (off:=off) (cap:=cap) (by simp;omega) (λh=>h1 (by simp at h;omega)) h2 (by simp;omega) h4 (λh=>h5 (by simp at h;omega)) λi j x y hx hy=> ?_
 have hi:zs[i]? =some x:=by
  rw[List.getElem?_take]at hx
  split at hx
  ·exact hx
  ·cases hx
 have hl:0<zs.length:=by
  rcases Nat.eq_zero_or_pos zs.length with h|h
  ·rw[List.eq_nil_of_length_eq_zero h]at hi;simp at hi
  ·exact h
 have:=h1 hl
 subst this
 exact h6.at hi j y hy
theorem acB{W w1:World}(hb:Below W.heap.size W w1){p q r:Addr}{v u x:Value}(h:W.cell? p=some v/\W.cell? q=some u/\W.cell? r=some x):w1.cell? p=some v/\w1.cell? q=some u/\w1.cell? r=some x:=⟨ah hb h.1,ah hb h.2.1,ah hb h.2.2⟩
theorem kU{W w1:World}{N:Nat}(hb:Below N W w1){p q:Addr}{v u:Value}(hp:p.block<N)(hq:q.block<N)(h:W.cell? p=some v/\W.cell? q=some u):w1.cell? p=some v/\w1.cell? q=some u:=⟨(hb.cell hp).trans h.1,(hb.cell hq).trans h.2⟩
theorem jw{W w1:World}{N:Nat}(hb:Below N W w1){p:Addr}{v:Value}(hp:p.block<N)(h:W.cell? p=some v):w1.cell? p=some v:=(hb.cell hp).trans h
theorem low_alloc{N:Nat}{a w:World}(h:Below N a w)(hN:N<=a.heap.size)(o:Obj):Below N a (w.alloc o):=WV h hN o
theorem aI{N:Nat}{a w:World}(h:Below N a w):Below N a w.drew:=h.drew
theorem low_set{N:Nat}{a w:World}(h:Below N a w){p:Addr}(hp:N<=p.block)(u:Value):Below N a (w.setCell p u):=h.setCell hp u
theorem iM{N B:Nat}{a w w':World}{v:Value}(hg:w.grownBy w' v.ownBlock)(hb:Below N a w)(ho:∀k,v.ownBlock=some k->B<=k)(hB:N<=B)(hN:N<=a.heap.size):Below N a w':=dF hg hb hN λk hk=>Nat.le_trans hB (ho k hk)
theorem aH{α:Type}{k:Nat}{en:α->List Value}{T:TypeId}{W:World}{B:Nat}{v:Value}{zs:List α}(h:ak T k en W B v zs)(hk:∀x:α,(en x).length=k):∃va vl vc,v=.slice va vl vc:=by
 obtain⟨va,vc,e,_⟩:=h.form hk
 exact⟨va,_,vc,e⟩
theorem ak.aU{α:Type}{k:Nat}{en:α->List Value}{T:TypeId}{W:World}{B:Nat}{v:Value}{zs:List α}(h:ak T k en W B v zs){p:Addr}(hp:p.block<B)(u:Value):ak T k en (W.setCell p u) B v zs:=by
 unfold ak at h⊢
 exact ownsRow_setCell_below h hp u
theorem FU(c n:Int)(w:World)(hn:1<=n)(hn2:n<1000000)(h1: -9223372036854775808<=c)(h2:c<9223372036854775808):
  Calls Tryz.prog 80 #[.int .i64 c,.int .i64 n] w λe w'=>e=.returned (.int .i64 (aC c n))/\w=w':=by
 by_cases h:c<0
 ·have HP:Hid (aC c n= -(c+1)%n):=by unfold aC;rw[if_pos h];rfl
  go_enter Tryz.func80,Tryz.ntmps80
  go_wp2
  go_ret
  exact zi (by rw[HP.out,<-Int.neg_tmod,Int.tmod_eq_emod_of_nonneg (by omega)]) rfl
 ·have HP:Hid (aC c n=c%n):=by unfold aC;rw[if_neg h];rfl
  go_enter Tryz.func80,Tryz.ntmps80
  go_wp2
  go_ret
  exact zi (by rw[HP.out];try rw[Int.tmod_eq_emod_of_nonneg (by omega)]) rfl
theorem iE(c n:Int)(w:World)(hn:1<=n)(hn2:n<1000000)(h1: -9223372036854775808<=c)(h2:c<9223372036854775808):
  Calls Tryz.prog 23 #[.int .i64 c,.int .i64 n] w λe w'=>e=.returned (.int .i64 (aC c n))/\w=w':=by
 by_cases h:c<0
 ·have HP:Hid (aC c n= -(c+1)%n):=by unfold aC;rw[if_pos h];rfl
  go_enter Tryz.func23,Tryz.ntmps23
  go_wp2
  go_ret
  exact zi (by rw[HP.out,<-Int.neg_tmod,Int.tmod_eq_emod_of_nonneg (by omega)]) rfl
 ·have HP:Hid (aC c n=c%n):=by unfold aC;rw[if_neg h];rfl
  go_enter Tryz.func23,Tryz.ntmps23
  go_wp2
  go_ret
  exact zi (by rw[HP.out];try rw[Int.tmod_eq_emod_of_nonneg (by omega)]) rfl
structure NIn(x:Rh):Prop where
 ptrs:∀n∈x.nodes,∀c∈n.1,I64 c
 roots:∀c∈x.roots,I64 c
 cls:∀c∈x.cls,I64 c
 dR:I64 x.dR
 scan:I64 x.scan
 tt:I64 x.tt
def lX(x:Rh):List (List Int×List Int):=(List.range (nN x)).map λi=>(bf x i,dI x i)
theorem Ql:(Tryz.prog.info? 111).map (λi=>(i.zero,i.size,i.bytes))=some (some (.agg #[.slice none 0 0,.slice none 0 0]),2,48):=by kernel_rfl
theorem Xr(x:Sl×Sl):∀u∈Qk x,u.oneCell'=true:=λu hu=>by
 simp only[Qk,List.mem_cons,List.not_mem_nil,or_false]at hu
 rcases hu with rfl|rfl<;>rfl
theorem acC{ops:Array Oper}{rest:List Oper}{o:Oper}{a:Act}{Q:Exit->Act->World->Prop}(w:World)(hw:Region.wanted o (yielded ops a.tmps)=true)(s x:Operand)
  (ho:o.op=.call {callee:=.builtin .append,args:= #[s,x],argTypes:= #[59,59]})
  (B:Nat) (v u:Value) (xs ys:List (Sl×Sl)) (hs:a.eval s=v) (hx:a.eval x=u) (hown:ak 111 2 Qk w B v xs) (hys:fH 2 Qk w u ys) (hbig:xs.length+ys.length<100000000000) (hB:B<=w.heap.size)
  (h:∀v' w',ak 111 2 Qk w' B v' (xs++ys)->w.grownBy w' v.ownBlock->(v'.ownBlock=v.ownBlock\/v'.ownBlock=some w.heap.size)->wpList Tryz.prog ops Q rest (a.put o.dst v') w'):wpList Tryz.prog ops Q (o::rest) a w:=
 Fq (α:=Sl×Sl) (k:=2) (en:=Qk) w hw s x _ ho zL Xr _ 48 Tryz.underlying59 Ql rfl (by decide) (by decide) B v u xs ys hs hx hown hys hbig hB h
theorem Qm(v rv:Value)(x:Rh)(w:World)(hn:nM w v x.nodes)(hr:fH 1 zK w rv x.roots)(hx:NIn x):
  Calls Tryz.prog 56 #[v,rv] w λe w'=>(∃gv qv,e=.returned (.agg #[gv,qv])/\Safe w' (w.heap.size+1) none (λW=>nM W gv (lX x))/\Safe w' (w.heap.size+1) none (λW=>fH 1 zK W qv (bI x)))/\Below w.heap.size w w':=by
 obtain⟨us,YM,hus,hall⟩:=hn
 obtain⟨na,nb,no,nc,rfl,n1,n2,n3,n4,n5,hus⟩:=hus.form
 obtain⟨ra,rb,ro,rc,rfl,r1,r2,r3,r4,r5,hrs⟩:=hr.form
 have hmin:(if(10:Int)<(us.length:Int)then 10 else(us.length:Int))=((nN x:Nat):Int):=by unfold nN;rw[<-YM];split<;>omega
 have amr:=DN x
 have hmu:nN x<=us.length:=by unfold nN;rw[YM];exact Nat.min_le_left _ _
 have YN:=Lib.hid hus
 have HRS:=Lib.hid hrs
 have afY:=Lib.hid hall
 have HX:=Lib.hid hx
 have HUL:=Lib.hid YM
 clear hus hrs hall hx YM n2 r2
 generalize hm:nN x=m at*
 have HM:=Lib.hid hm
 clear hm
 go_enter Tryz.func56,Tryz.ntmps56
 go_wp2_with fail
 go_loopw [7] (λi wr=>∃(k:Nat)(nv:Value)(vs:List (Sl×Sl)),k<=m/\i=.int .i64 k/\Hid (vs.length=k)/\Hid (aj wr (w.heap.size+1) #[nv,.slice none 0 0] 61)/\Hid (ak 111 2 Qk wr (w.heap.size+2) nv vs)/\Hid (∀(j:Nat)(a:Sl×Sl),vs[j]? =some a->Safe wr (w.heap.size+1) nv.ownBlock λW=>lW W a (bf x j,dI x j))/\Hid (Below w.heap.size w wr)/\Hid (w.heap.size+2<=wr.heap.size)/\Hid (aj wr w.heap.size #[.slice none 0 0,.slice none 0 0] 61)) (λi _=>m-(intOf i).toNat)
 case atStart=>
  refine⟨0,.slice none 0 0,[],Nat.zero_le _,rfl,rfl,Lib.hid (aj.mk (by simp)),Lib.hid (ak.nil _ _),Lib.hid (λj a h=>by simp at h),Lib.hid ?_,Lib.hid (by simp),Lib.hid ((aj.new _ _ _).alloc _)⟩
  exact bm
 case round=>
  obtain⟨k,nv,vs,hk,rfl,hvl,hblk,ho,hsafe,hb,hsz,hrc⟩:=hrel
  generalize wr=W1 at*
  by_cases hlt:k<m
  ·have ZK:k<us.length:=by omega
   have had:=n1 (by omega)
   subst had
   obtain⟨⟨⟨pa,pn,pc⟩,⟨da,dn,dc⟩⟩,ha⟩:∃a,us[k]=a:=⟨_,rfl⟩
   have hc0:=ah hb.out (YN.out.at (i:=k) (List.getElem?_eq_getElem ZK) 0 (.slice pa pn pc) (by rw[ha];rfl))
   have hc1:=ah hb.out (YN.out.at (i:=k) (List.getElem?_eq_getElem ZK) 1 (.slice da dn dc) (by rw[ha];rfl))
   rw[Nat.add_zero]at hc0
   obtain⟨ps,hps⟩:∃p,x.nodes[k]'(by rw[<-HUL.out];exact ZK)=p:=⟨_,rfl⟩
   obtain⟨ps,ds⟩:=ps
   obtain⟨hp0,hd0⟩:=afY.out k ((pa,pn,pc),(da,dn,dc)) (ps,ds) (by rw[List.getElem?_eq_getElem ZK,ha]) (by rw[List.getElem?_eq_getElem (by rw[<-HUL.out];exact ZK),hps])
   have HD0:=Lib.hid (hd0.tr hb.out)
   have WJ:=Lib.hid (hp0.tr hb.out)
   obtain⟨pa2,pb,po,pc2,e1,p1,p2,p3,p4,p5,hp6⟩:=(hp0.tr hb.out).form
   obtain⟨da2,db,do_,dc2,e2,d1,d2,d3,d4,d5,hd6⟩:=(hd0.tr hb.out).form
   simp only[aS,Value.slice.injEq]at e1 e2
   obtain⟨rfl,rfl,rfl⟩:=e1
   obtain⟨rfl,rfl,rfl⟩:=e2
   have hPI:∀c∈ps,I64 c:=λc hc=>HX.out.ptrs (ps,ds) (by rw[<-hps];exact List.getElem_mem _) c hc
   have HPI:=Lib.hid hPI
   have hgp:bf x k=(ps.take 4).map λc=>aC c ((m:Int)+1)-1:=by
    unfold bf
    rw[HM.out,List.getD_eq_getElem?_getD,List.getElem?_eq_getElem (by rw[<-HUL.out];exact ZK),hps]
    rfl
   have hgd:dI x k=ds.take 4:=by
    unfold dI
    rw[List.getD_eq_getElem?_getD,List.getElem?_eq_getElem (by rw[<-HUL.out];exact ZK),hps]
    rfl
   have HGP:=Lib.hid hgp
   have HGD:=Lib.hid hgd
   have HC:=Lib.hid (And.intro hc0 hc1)
   have hnb:nb<W1.heap.size:=by have:=n5 (by omega);have:=hb.out.size;omega
   clear hp0 hd0 hp6 hd6 hPI hgp hgd hc0 hc1
   have hcc:=HC.out
   obtain⟨hc0,hc1⟩:=hcc
   go_wp2_with fail
   go_loopw [9] (λi wr=>∃(q:Nat)(pv:Value),q<=ps.length/\q<=4/\i=.int .i64 q/\Hid (aj wr W1.heap.size #[pv,.slice none 0 0] 111)/\Hid (ak 3 1 zK wr (W1.heap.size+1) pv ((bf x k).take q))/\Hid (Below W1.heap.size W1 wr)/\Hid (W1.heap.size+1<=wr.heap.size)) (λi _=>4-(intOf i).toNat)
   case atStart=>
    refine⟨0,.slice none 0 0,Nat.zero_le _,Nat.zero_le _,rfl,Lib.hid (aj.new _ _ _),Lib.hid (ak.nil _ _),Lib.hid ?_,Lib.hid (by simp)⟩
    exact bm
   case round=>
    obtain⟨q,pv,hq,hq4,rfl,hbk,hop,hb2,hs2⟩:=hrel
    have hd0:=ah hb2.out HC.out.1
    have hbk0:=hbk.out
    obtain⟨lk,ck,fk⟩:=hbk0.get
    by_cases hl2:q<ps.length/\q<4
    ·obtain⟨l1,l2⟩:=hl2
     have l1i:(q:Int)<(ps.length:Int):=by omega
     have l2i:(q:Int)<4:=by omega
     have hpa:=p1 (by omega)
     subst hpa
     have hcq:=ah hb2.out (WJ.out.at (i:=q) (List.getElem?_eq_getElem l1) 0 _ rfl)
     rw[Nat.mul_one,Nat.add_zero]at hcq
     obtain⟨Uw,Ux⟩:=HPI.out ps[q] (List.getElem_mem l1)
     generalize hcq0:ps[q]=c at*
     go_upto_region 10 with(fail)
     have hpk:=dw c (n:=(m:Int)+1) (by omega)
     have Iu:Hid (∀W,Calls Tryz.prog 80 #[.int .i64 c,.int .i64 ((m:Int)+1)] W λe w'=>e=.returned (.int .i64 (aC c ((m:Int)+1)))/\W=w'):=Lib.hid λW=>FU c ((m:Int)+1) W (by omega) (by omega) Uw Ux
     have L8:IntKind.i64.wrap ((m:Int)+1)=(m:Int)+1:=IntWalk.i64_in _ (by omega)
     have Ht:IntKind.i64.wrap (aC c ((m:Int)+1)-1)=aC c ((m:Int)+1)-1:=IntWalk.i64_in _ (by omega)
     have HS:Hid ((bf x k).take (q+1)=(bf x k).take q++[aC c ((m:Int)+1)-1]):=Lib.hid (by
      rw[HGP.out,List.take_add_one,List.getElem?_map,List.getElem?_take,if_pos l2,List.getElem?_eq_getElem l1,hcq0]
      rfl)
     have OE:Hid (((bf x k).take q).length+1<100000000000):=Lib.hid (by simp;omega)
     obtain⟨M1,hwm⟩:∃M,IntKind.i64.wrap ((m:Int)+1)=M:=⟨_,rfl⟩
     rw[hwm]at L8
     rw[<-L8]at Iu Ht HS
     generalize aC c M1=Y at*
     obtain⟨P1,hwp⟩:∃M,IntKind.i64.wrap (Y-1)=M:=⟨_,rfl⟩
     rw[hwp]at Ht
     rw[<-Ht]at HS
     clear Uw Ux hpk hcq0 L8 Ht
     generalize(bf x k).take q=done at*
     have hS3:wr.cell? ⟨nb,no+k*2,none⟩=some (.slice (some ⟨pb,po,none⟩) ps.length pc)/\wr.cell? ⟨pb,po+q,none⟩=some (.int .i64 c):=⟨hd0,hcq⟩
     have hsB:W1.heap.size+1<=wr.heap.size:=hs2.out
     have hB1:Below W1.heap.size wr wr:=Below.refl _ _
     have uq:nb<W1.heap.size:=hnb
     have yG:pb<W1.heap.size:=p5 (by omega)
     refine wp_region_held_drew (S:=(λw'=>w'.cell? ⟨nb,no+k*2,none⟩=some (.slice (some ⟨pb,po,none⟩) ps.length pc)/\w'.cell? ⟨pb,po+q,none⟩=some (.int .i64 c))) (by kernel_rfl) ?_ (λhHeld=> ?_)
     ·(try dsimp only);refine kU (W:=wr) (N:=W1.heap.size) ?_ uq yG hS3;(first|(repeat(first|with_reducible exact Below.refl _ _|with_reducible assumption|with_reducible refine low_alloc ?_ (by omega) _|with_reducible refine aI ?_|with_reducible refine low_set ?_ (by first|omega|(simp;done)|(simp;omega)) _)))
     refine tk 0 ?_
     refine tk 2 ?_
     refine tk 3 ?_
     refine tk 4 ?_
     refine tk 5 ?_
     refine tk 6 ?_
     refine tk 7 ?_
     refine tk 8 ?_
     refine tk 9 ?_
     refine tk 10 ?_
     refine tk 11 ?_
     refine wpAnyH_ready (rs:=[1,12]) (by kernel_rfl) (by simp) ?_
     refine AllReadyH.cons rfl (λK hK=> ?_) (AllReadyH.cons rfl (λK hK=> ?_) AllReadyH.nil)
     ·go_simp
      refine hK.out _ _ ?_ (λhHeld=> ?_)
      ·(try dsimp only);refine kU (W:=wr) (N:=W1.heap.size) ?_ uq yG hS3;(first|(repeat(first|with_reducible exact Below.refl _ _|with_reducible assumption|with_reducible refine low_alloc ?_ (by omega) _|with_reducible refine aI ?_|with_reducible refine low_set ?_ (by first|omega|(simp;done)|(simp;omega)) _)))
      clear hK K
      try simp only[List.getElem_toArray,List.getElem_cons_succ,List.getElem_cons_zero,Act.put,List.setIfInBounds_toArray,List.set_cons_zero,List.set_cons_succ]
      refine co 12 λK hK=> ?_
      go_simp
      go_at_call 80;refine(Iu.out _).mono ?_;rintro e ww ⟨rfl,rfl⟩
      refine hK.out _ _ ?_ (λhHeld=> ?_)
      ·(try dsimp only);refine kU (W:=wr) (N:=W1.heap.size) ?_ uq yG hS3;(first|(repeat(first|with_reducible exact Below.refl _ _|with_reducible assumption|with_reducible refine low_alloc ?_ (by omega) _|with_reducible refine aI ?_|with_reducible refine low_set ?_ (by first|omega|(simp;done)|(simp;omega)) _)))
      clear hK K
      refine nx ?_
      refine tk 13 ?_
      refine co 14 λK hK=> ?_
      go_simp
      skip
      refine hK.out _ _ ?_ (λhHeld=> ?_)
      ·(try dsimp only);refine kU (W:=wr) (N:=W1.heap.size) ?_ uq yG hS3;(first|(repeat(first|with_reducible exact Below.refl _ _|with_reducible assumption|with_reducible refine low_alloc ?_ (by omega) _|with_reducible refine aI ?_|with_reducible refine low_set ?_ (by first|omega|(simp;done)|(simp;omega)) _)))
      clear hK K
      refine nx ?_
      refine wpAnyH_ready (rs:=[15]) (by kernel_rfl) (by simp) ?_
      refine AllReadyH.cons rfl (λK hK=> ?_) AllReadyH.nil
      refine AX rfl (.tmp 34) (.tmp 47) rfl (W1.heap.size+1) pv _ done [P1] rfl rfl ?c0 ?c1 OE.out ?c2 ?c3
      case c0=>refine hop.out.tr ?_;exact bm
      case c1=>first|exact sN _ _ rfl|exact(sN _ _ rfl).drew
      case c2=>first|exact hsB|exact Nat.le_trans hsB (by simp)
      case c3=>
      intro v48 nO AY jm sO
      obtain⟨va,vl,vc,rfl⟩:=aH AY jE
      have oH:=bK (n:=W1.heap.size) (cs:= #[pv,.slice none 0 0]) (T:=111) jm (by exact bk) (λj hj=>by have:=hop.out.block j hj;omega)
      obtain⟨l48,Sm,f48⟩:=oH.get
      have hb48:Below W1.heap.size wr nO:=iM jm (by(repeat(first|with_reducible exact Below.refl _ _|with_reducible assumption|with_reducible refine low_alloc ?_ (by omega) _|with_reducible refine aI ?_|with_reducible refine low_set ?_ (by first|omega|(simp;done)|(simp;omega)) _))) hop.out.block (by omega) (by omega)
      refine hK.out _ _ ?_ (λhHeld=> ?_)
      ·(try dsimp only);refine kU (W:=wr) (N:=W1.heap.size) ?_ uq yG hS3;(first|(repeat(first|with_reducible exact Below.refl _ _|with_reducible assumption|with_reducible refine low_alloc ?_ (by omega) _|with_reducible refine aI ?_|with_reducible refine low_set ?_ (by first|omega|(simp;done)|(simp;omega)) _)))
      clear hK K
      try simp only[List.getElem_toArray,List.getElem_cons_succ,List.getElem_cons_zero,Act.put,List.setIfInBounds_toArray,List.set_cons_zero,List.set_cons_succ]
      refine tk 16 ?_
      refine co 17 λK hK=> ?_
      go_simp
      skip
      refine hK.out _ _ ?_ (λhHeld=> ?_)
      ·(try dsimp only);refine kU (W:=wr) (N:=W1.heap.size) ?_ uq yG hS3;(first|(repeat(first|with_reducible exact Below.refl _ _|with_reducible assumption|with_reducible refine low_alloc ?_ (by omega) _|with_reducible refine aI ?_|with_reducible refine low_set ?_ (by first|omega|(simp;done)|(simp;omega)) _)))
      clear hK K
      refine nx ?_
      refine wpAnyH_done (by kernel_rfl) ?_ _
      have hr1:Below W1.heap.size W1 (nO.setCell ⟨W1.heap.size,0,none⟩ (.slice va vl vc)):=low_set ((hb2.out).trans hb48) (Nat.le_refl _) _
      have hr2:aj (nO.setCell ⟨W1.heap.size,0,none⟩ (.slice va vl vc)) W1.heap.size #[.slice va vl vc,.slice none 0 0] 111:=oH.set 0 (.slice va vl vc)
      have hr3:ak 3 1 zK (nO.setCell ⟨W1.heap.size,0,none⟩ (.slice va vl vc)) (W1.heap.size+1) (.slice va vl vc) ((bf x k).take (q+1)):=by rw[HS.out];exact ak.aU AY (Nat.lt_succ_self _) _
      have hr4:W1.heap.size+1<=(nO.setCell ⟨W1.heap.size,0,none⟩ (.slice va vl vc)).heap.size:=by have:=l48;simp;omega
      have HR1:=Lib.hid hr1
      have HR2:=Lib.hid hr2
      have HR3:=Lib.hid hr3
      have HR4:=Lib.hid hr4
      clear hr1 hr2 hr3 hr4 hb48 oH AY jm sO l48 Sm f48
      go_wp2_with fail
      exact⟨⟨q+1,_,by omega,by omega,by go_num,HR2,HR3,HR1,HR4⟩,by simp[intOf];omega⟩
     ·go_simp
      go_at_call 80
      refine(Iu.out _).mono ?_;rintro e ww ⟨rfl,rfl⟩
      refine hK.out _ _ ?_ (λhHeld=> ?_)
      ·(try dsimp only);refine kU (W:=wr) (N:=W1.heap.size) ?_ uq yG hS3;(first|(repeat(first|with_reducible exact Below.refl _ _|with_reducible assumption|with_reducible refine low_alloc ?_ (by omega) _|with_reducible refine aI ?_|with_reducible refine low_set ?_ (by first|omega|(simp;done)|(simp;omega)) _)))
      clear hK K
      try simp only[List.getElem_toArray,List.getElem_cons_succ,List.getElem_cons_zero,Act.put,List.setIfInBounds_toArray,List.set_cons_zero,List.set_cons_succ]
      refine tk 13 ?_
      refine wpAnyH_ready (rs:=[1,14]) (by kernel_rfl) (by simp) ?_
      refine AllReadyH.cons rfl (λK hK=> ?_) (AllReadyH.cons rfl (λK hK=> ?_) AllReadyH.nil)
      ·go_simp
       refine hK.out _ _ ?_ (λhHeld=> ?_)
       ·(try dsimp only);refine kU (W:=wr) (N:=W1.heap.size) ?_ uq yG hS3;(first|(repeat(first|with_reducible exact Below.refl _ _|with_reducible assumption|with_reducible refine low_alloc ?_ (by omega) _|with_reducible refine aI ?_|with_reducible refine low_set ?_ (by first|omega|(simp;done)|(simp;omega)) _)))
       clear hK K
       try simp only[List.getElem_toArray,List.getElem_cons_succ,List.getElem_cons_zero,Act.put,List.setIfInBounds_toArray,List.set_cons_zero,List.set_cons_succ]
       refine co 14 λK hK=> ?_
       go_simp
       skip
       refine hK.out _ _ ?_ (λhHeld=> ?_)
       ·(try dsimp only);refine kU (W:=wr) (N:=W1.heap.size) ?_ uq yG hS3;(first|(repeat(first|with_reducible exact Below.refl _ _|with_reducible assumption|with_reducible refine low_alloc ?_ (by omega) _|with_reducible refine aI ?_|with_reducible refine low_set ?_ (by first|omega|(simp;done)|(simp;omega)) _)))
       clear hK K
       refine nx ?_
       refine wpAnyH_ready (rs:=[15]) (by kernel_rfl) (by simp) ?_
       refine AllReadyH.cons rfl (λK hK=> ?_) AllReadyH.nil
       refine AX rfl (.tmp 34) (.tmp 47) rfl (W1.heap.size+1) pv _ done [P1] rfl rfl ?c0 ?c1 OE.out ?c2 ?c3
       case c0=>refine hop.out.tr ?_;exact bm
       case c1=>first|exact sN _ _ rfl|exact(sN _ _ rfl).drew
       case c2=>first|exact hsB|exact Nat.le_trans hsB (by simp)
       case c3=>
       intro v48 nO AY jm sO
       obtain⟨va,vl,vc,rfl⟩:=aH AY jE
       have oH:=bK (n:=W1.heap.size) (cs:= #[pv,.slice none 0 0]) (T:=111) jm (by exact bk) (λj hj=>by have:=hop.out.block j hj;omega)
       obtain⟨l48,Sm,f48⟩:=oH.get
       have hb48:Below W1.heap.size wr nO:=iM jm (by(repeat(first|with_reducible exact Below.refl _ _|with_reducible assumption|with_reducible refine low_alloc ?_ (by omega) _|with_reducible refine aI ?_|with_reducible refine low_set ?_ (by first|omega|(simp;done)|(simp;omega)) _))) hop.out.block (by omega) (by omega)
       refine hK.out _ _ ?_ (λhHeld=> ?_)
       ·(try dsimp only);refine kU (W:=wr) (N:=W1.heap.size) ?_ uq yG hS3;(first|(repeat(first|with_reducible exact Below.refl _ _|with_reducible assumption|with_reducible refine low_alloc ?_ (by omega) _|with_reducible refine aI ?_|with_reducible refine low_set ?_ (by first|omega|(simp;done)|(simp;omega)) _)))
       clear hK K
       try simp only[List.getElem_toArray,List.getElem_cons_succ,List.getElem_cons_zero,Act.put,List.setIfInBounds_toArray,List.set_cons_zero,List.set_cons_succ]
       refine tk 16 ?_
       refine co 17 λK hK=> ?_
       go_simp
       skip
       refine hK.out _ _ ?_ (λhHeld=> ?_)
       ·(try dsimp only);refine kU (W:=wr) (N:=W1.heap.size) ?_ uq yG hS3;(first|(repeat(first|with_reducible exact Below.refl _ _|with_reducible assumption|with_reducible refine low_alloc ?_ (by omega) _|with_reducible refine aI ?_|with_reducible refine low_set ?_ (by first|omega|(simp;done)|(simp;omega)) _)))
       clear hK K
       refine nx ?_
       refine wpAnyH_done (by kernel_rfl) ?_ _
       have hr1:Below W1.heap.size W1 (nO.setCell ⟨W1.heap.size,0,none⟩ (.slice va vl vc)):=low_set ((hb2.out).trans hb48) (Nat.le_refl _) _
       have hr2:aj (nO.setCell ⟨W1.heap.size,0,none⟩ (.slice va vl vc)) W1.heap.size #[.slice va vl vc,.slice none 0 0] 111:=oH.set 0 (.slice va vl vc)
       have hr3:ak 3 1 zK (nO.setCell ⟨W1.heap.size,0,none⟩ (.slice va vl vc)) (W1.heap.size+1) (.slice va vl vc) ((bf x k).take (q+1)):=by rw[HS.out];exact ak.aU AY (Nat.lt_succ_self _) _
       have hr4:W1.heap.size+1<=(nO.setCell ⟨W1.heap.size,0,none⟩ (.slice va vl vc)).heap.size:=by have:=l48;simp;omega
       have HR1:=Lib.hid hr1
       have HR2:=Lib.hid hr2
       have HR3:=Lib.hid hr3
       have HR4:=Lib.hid hr4
       clear hr1 hr2 hr3 hr4 hb48 oH AY jm sO l48 Sm f48
       go_wp2_with fail
       exact⟨⟨q+1,_,by omega,by omega,by go_num,HR2,HR3,HR1,HR4⟩,by simp[intOf];omega⟩
      ·go_simp
       refine hK.out _ _ ?_ (λhHeld=> ?_)
       ·(try dsimp only);refine kU (W:=wr) (N:=W1.heap.size) ?_ uq yG hS3;(first|(repeat(first|with_reducible exact Below.refl _ _|with_reducible assumption|with_reducible refine low_alloc ?_ (by omega) _|with_reducible refine aI ?_|with_reducible refine low_set ?_ (by first|omega|(simp;done)|(simp;omega)) _)))
       clear hK K
       try simp only[List.getElem_toArray,List.getElem_cons_succ,List.getElem_cons_zero,Act.put,List.setIfInBounds_toArray,List.set_cons_zero,List.set_cons_succ]
       refine co 1 λK hK=> ?_
       go_simp
       skip
       refine hK.out _ _ ?_ (λhHeld=> ?_)
       ·(try dsimp only);refine kU (W:=wr) (N:=W1.heap.size) ?_ uq yG hS3;(first|(repeat(first|with_reducible exact Below.refl _ _|with_reducible assumption|with_reducible refine low_alloc ?_ (by omega) _|with_reducible refine aI ?_|with_reducible refine low_set ?_ (by first|omega|(simp;done)|(simp;omega)) _)))
       clear hK K
       refine nx ?_
       refine wpAnyH_ready (rs:=[15]) (by kernel_rfl) (by simp) ?_
       refine AllReadyH.cons rfl (λK hK=> ?_) AllReadyH.nil
       refine AX rfl (.tmp 34) (.tmp 47) rfl (W1.heap.size+1) pv _ done [P1] rfl rfl ?c0 ?c1 OE.out ?c2 ?c3
       case c0=>refine hop.out.tr ?_;exact bm
       case c1=>first|exact sN _ _ rfl|exact(sN _ _ rfl).drew
       case c2=>first|exact hsB|exact Nat.le_trans hsB (by simp)
       case c3=>
       intro v48 nO AY jm sO
       obtain⟨va,vl,vc,rfl⟩:=aH AY jE
       have oH:=bK (n:=W1.heap.size) (cs:= #[pv,.slice none 0 0]) (T:=111) jm (by exact bk) (λj hj=>by have:=hop.out.block j hj;omega)
       obtain⟨l48,Sm,f48⟩:=oH.get
       have hb48:Below W1.heap.size wr nO:=iM jm (by(repeat(first|with_reducible exact Below.refl _ _|with_reducible assumption|with_reducible refine low_alloc ?_ (by omega) _|with_reducible refine aI ?_|with_reducible refine low_set ?_ (by first|omega|(simp;done)|(simp;omega)) _))) hop.out.block (by omega) (by omega)
       refine hK.out _ _ ?_ (λhHeld=> ?_)
       ·(try dsimp only);refine kU (W:=wr) (N:=W1.heap.size) ?_ uq yG hS3;(first|(repeat(first|with_reducible exact Below.refl _ _|with_reducible assumption|with_reducible refine low_alloc ?_ (by omega) _|with_reducible refine aI ?_|with_reducible refine low_set ?_ (by first|omega|(simp;done)|(simp;omega)) _)))
       clear hK K
       try simp only[List.getElem_toArray,List.getElem_cons_succ,List.getElem_cons_zero,Act.put,List.setIfInBounds_toArray,List.set_cons_zero,List.set_cons_succ]
       refine tk 16 ?_
       refine co 17 λK hK=> ?_
       go_simp
       skip
       refine hK.out _ _ ?_ (λhHeld=> ?_)
       ·(try dsimp only);refine kU (W:=wr) (N:=W1.heap.size) ?_ uq yG hS3;(first|(repeat(first|with_reducible exact Below.refl _ _|with_reducible assumption|with_reducible refine low_alloc ?_ (by omega) _|with_reducible refine aI ?_|with_reducible refine low_set ?_ (by first|omega|(simp;done)|(simp;omega)) _)))
       clear hK K
       refine nx ?_
       refine wpAnyH_done (by kernel_rfl) ?_ _
       have hr1:Below W1.heap.size W1 (nO.setCell ⟨W1.heap.size,0,none⟩ (.slice va vl vc)):=low_set ((hb2.out).trans hb48) (Nat.le_refl _) _
       have hr2:aj (nO.setCell ⟨W1.heap.size,0,none⟩ (.slice va vl vc)) W1.heap.size #[.slice va vl vc,.slice none 0 0] 111:=oH.set 0 (.slice va vl vc)
       have hr3:ak 3 1 zK (nO.setCell ⟨W1.heap.size,0,none⟩ (.slice va vl vc)) (W1.heap.size+1) (.slice va vl vc) ((bf x k).take (q+1)):=by rw[HS.out];exact ak.aU AY (Nat.lt_succ_self _) _
       have hr4:W1.heap.size+1<=(nO.setCell ⟨W1.heap.size,0,none⟩ (.slice va vl vc)).heap.size:=by have:=l48;simp;omega
       have HR1:=Lib.hid hr1
       have HR2:=Lib.hid hr2
       have HR3:=Lib.hid hr3
       have HR4:=Lib.hid hr4
       clear hr1 hr2 hr3 hr4 hb48 oH AY jm sO l48 Sm f48
       go_wp2_with fail
       exact⟨⟨q+1,_,by omega,by omega,by go_num,HR2,HR3,HR1,HR4⟩,by simp[intOf];omega⟩
    ·have HTK:Hid ((bf x k).take q=bf x k):=Lib.hid (List.take_of_length_le (by rw[HGP.out];simp;omega))
     rw[HTK.out]at hop
     have hd1:=ah hb2.out HC.out.2
     have hDs:(dI x k).length<=ds.length/\(dI x k).length<=4:=by rw[HGD.out];simp;omega
     have YO:(if(4:Int)<(ds.length:Int)then 4 else(ds.length:Int))=((dI x k).length:Int):=by rw[HGD.out];simp;split<;>omega
     have HDU:Hid (fH 1 oG wr (.slice da (dI x k).length dc) (dI x k)):=Lib.hid (by
      have:=(fH.upto HD0.out hDs.1).tr hb2.out
      rw[show ds.take (dI x k).length=dI x k by rw[HGD.out];simp[List.take_take]]at this
      exact this)
     obtain⟨D,hD⟩:∃D,D=dI x k:=⟨_,rfl⟩
     rw[<-hD]at HDU YO hDs
     have HDD:=Lib.hid hD
     obtain⟨dl,hdl⟩:∃n,n=D.length:=⟨_,rfl⟩
     have HDL:=Lib.hid hdl
     rw[<-hdl]at HDU YO hDs
     have hdc:dl<=dc:=by omega
     clear hD hdl
     have uq:nb<W1.heap.size:=hnb
     have hsB:=hs2.out
     have hS1:wr.cell? ⟨nb,no+k*2+1,none⟩=some (.slice da ds.length dc):=hd1
     go_upto_region 8 with(fail)
     go_cut [30] (λv wx=>v=.bool false/\wx=wr)
     case first=>
      go_wp2_with fail
      all_goals (try simp only[decide_eq_true_eq,decide_eq_false_iff_not]at*)
      all_goals first
       |(exfalso;omega)
       |(go_meet;first|exact⟨rfl,rfl⟩|exact⟨congrArg Value.bool (decide_eq_false (by omega)),rfl⟩)
     case rest=>
     obtain⟨rfl,hwc⟩:=hcut
     subst hwc
     go_upto_region 11 with(fail)
     refine wp_region_held_drew (S:=(λw'=>w'.cell? ⟨nb,no+k*2+1,none⟩=some (.slice da ds.length dc))) (by kernel_rfl) ?_ (λhHeld=> ?_)
     ·(try dsimp only);refine jw (W:=wc) (N:=W1.heap.size) ?_ uq hS1;(first|(repeat(first|with_reducible exact Below.refl _ _|with_reducible assumption|with_reducible refine low_alloc ?_ (by omega) _|with_reducible refine aI ?_|with_reducible refine low_set ?_ (by first|omega|(simp;done)|(simp;omega)) _)))
     refine tk 0 ?_
     refine tk 1 ?_
     refine tk 2 ?_
     refine tk 3 ?_
     refine tk 4 ?_
     refine tk 5 ?_
     refine tk 6 ?_
     refine tk 7 ?_
     refine tk 8 ?_
     refine tk 9 ?_
     refine tk 10 ?_
     refine tk 11 ?_
     refine tk 12 ?_
     refine wpAnyH_ready (rs:=[13]) (by kernel_rfl) (by simp) ?_
     refine AllReadyH.cons rfl (λK hK=> ?_) AllReadyH.nil
     refine D8 rfl (.const (.slice none 0 0)) (.tmp 62) rfl (W1.heap.size+1) (.slice none 0 0) _ [] D rfl rfl (ak.nil _ _) ?c1 ?c0 ?c2 ?c3
     case c0=>have:=HDL.out;simp;omega
     case c1=>refine HDU.out.tr ?_;exact bm
     case c2=>first|exact hsB|exact Nat.le_trans hsB (by simp)
     case c3=>
     intro v63 w63 o63 Xt acG
     obtain⟨ea,el,ec,rfl⟩:=aH o63 fJ
     obtain⟨va,vl,vc,rfl⟩:=aH hop.out jE
     have ZL:=bK (n:=W1.heap.size) (cs:= #[.slice va vl vc,.slice none 0 0]) (T:=111) Xt (by exact bk) (λj hj=>by cases hj)
     obtain⟨l63,c63,f63⟩:=ZL.get
     have acH:Below W1.heap.size wc w63:=iM (B:=W1.heap.size) Xt (by(repeat(first|with_reducible exact Below.refl _ _|with_reducible assumption|with_reducible refine low_alloc ?_ (by omega) _|with_reducible refine aI ?_|with_reducible refine low_set ?_ (by first|omega|(simp;done)|(simp;omega)) _))) (λk hk=>by cases hk) (Nat.le_refl _) (by omega)
     have hb64:Below wc.heap.size wc w63:=iM (B:=wc.heap.size) Xt (by exact bm) (λk hk=>by cases hk) (Nat.le_refl _) (Nat.le_refl _)
     have hp63:=hop.out.tr hb64
     refine hK.out _ _ ?_ (λhHeld=> ?_)
     ·(try dsimp only);refine jw (W:=wc) (N:=W1.heap.size) ?_ uq hS1;(first|(repeat(first|with_reducible exact Below.refl _ _|with_reducible assumption|with_reducible refine low_alloc ?_ (by omega) _|with_reducible refine aI ?_|with_reducible refine low_set ?_ (by first|omega|(simp;done)|(simp;omega)) _)))
     clear hK K
     try simp only[List.getElem_toArray,List.getElem_cons_succ,List.getElem_cons_zero,Act.put,List.setIfInBounds_toArray,List.set_cons_zero,List.set_cons_succ]
     refine tk 14 ?_
     refine co 15 λK hK=> ?_
     go_simp
     skip
     refine hK.out _ _ ?_ (λhHeld=> ?_)
     ·(try dsimp only);refine jw (W:=wc) (N:=W1.heap.size) ?_ uq hS1;(first|(repeat(first|with_reducible exact Below.refl _ _|with_reducible assumption|with_reducible refine low_alloc ?_ (by omega) _|with_reducible refine aI ?_|with_reducible refine low_set ?_ (by first|omega|(simp;done)|(simp;omega)) _)))
     clear hK K
     refine nx ?_
     refine wpAnyH_done (by kernel_rfl) ?_ _
     have hr1:Below W1.heap.size W1 (w63.setCell ⟨W1.heap.size,1,none⟩ (.slice ea el ec)):=low_set ((hb2.out).trans acH) (Nat.le_refl _) _
     have hr2:aj (w63.setCell ⟨W1.heap.size,1,none⟩ (.slice ea el ec)) W1.heap.size #[.slice va vl vc,.slice ea el ec] 111:=ZL.set 1 (.slice ea el ec)
     have hr3:=ak.aU hp63 (p:=⟨W1.heap.size,1,none⟩) (Nat.lt_succ_self _) (.slice ea el ec)
     have hr4:=ak.aU o63 (p:=⟨W1.heap.size,1,none⟩) (Nat.lt_succ_self _) (.slice ea el ec)
     clear hp63 o63 acH hb64 ZL c63 f63 l63 Xt acG
     generalize w63.setCell ⟨W1.heap.size,1,none⟩ (.slice ea el ec)=W2 at*
     rw[List.nil_append,HDD.out]at hr4
     have HNN:Hid (Safe W2 (w.heap.size+1) nv.ownBlock λW=>lW W ((va,vl,vc),(ea,el,ec)) (bf x k,dI x k)):=Lib.hid (by
      have h1:∀j,nv.ownBlock=some j->j<W1.heap.size+1:=λj hj=>by have:=ho.out.lt j hj;omega
      have hg:w.heap.size+1<W1.heap.size+1:=by have:=hsz.out;omega
      exactλW' hs hb=>⟨vU jE hr3 hg h1 W' hs hb,vU fJ hr4 hg h1 W' hs hb⟩)
     have HNV:=Lib.hid (ho.out.tr hr1)
     have HGB:=Lib.hid (hblk.out.tr hr1)
     have HRC:=Lib.hid (hrc.out.tr hr1)
     have HSF:Hid (∀(j:Nat)(a:Sl×Sl),vs[j]? =some a->Safe W2 (w.heap.size+1) nv.ownBlock λW=>lW W a (bf x j,dI x j)):=Lib.hid λj a hj=>(hsafe.out j a hj).tr hr1
     have HBW:Hid (Below w.heap.size w W2):=Lib.hid (hb.out.trans (hr1.mono hb.out.size))
     have HS2:Hid (w.heap.size+2<=W2.heap.size):=Lib.hid (Nat.le_trans hsz.out hr1.size)
     have HGG:=HGB.out
     obtain⟨lg,cg,fg⟩:=HGG.get
     obtain⟨lx,cx,fx⟩:=hr2.get
     obtain⟨na0,nl0,nc0,rfl⟩:=aH HNV.out zL
     clear hr1 hr3 hr4 hb2 hop hbk hbk0 lk ck fk ho hblk hsafe hb hsz hrc HDU HD0 WJ
     go_wp2_with (at_builtin;refine acC _ rfl _ _ rfl (w.heap.size+2) _ _ vs [((va,vl,vc),(ea,el,ec))] rfl rfl (HNV.out.tr ?d0) (jC _ ((va,vl,vc),(ea,el,ec)) _ rfl _ rfl) ?d1 ?d2 ?d3)
     case d0=>exact bm
     case d1=>have:=hvl.out;simp;omega
     case d2=>have:=HS2.out;simp;omega
     case d3=>
     intro v69 w69 o69 Qn YP
     obtain⟨ga,gl,gc,rfl⟩:=aH o69 zL
     have acI:=(bK Qn (HGB.out.alloc _) (λj hj=>by have:=HNV.out.block j hj;omega))
     obtain⟨l69,c69,f69⟩:=acI.get
     have R1:Hid (aj (w69.setCell ⟨w.heap.size+1,0,none⟩ (.slice ga gl gc)) (w.heap.size+1) #[.slice ga gl gc,.slice none 0 0] 61):=Lib.hid (acI.set 0 (.slice ga gl gc))
     have R2:Hid (ak 111 2 Qk (w69.setCell ⟨w.heap.size+1,0,none⟩ (.slice ga gl gc)) (w.heap.size+2) (.slice ga gl gc) (vs++[((va,vl,vc),(ea,el,ec))])):=Lib.hid (ak.aU o69 (Nat.lt_succ_self _) _)
     have R3:Hid (∀(j:Nat)(a:Sl×Sl),(vs++[((va,vl,vc),(ea,el,ec))])[j]? =some a->Safe (w69.setCell ⟨w.heap.size+1,0,none⟩ (.slice ga gl gc)) (w.heap.size+1) (Value.slice ga gl gc).ownBlock λW=>lW W a (bf x j,dI x j)):=Lib.hid λj a hj=>by
      refine Safe.set (Safe.row (Safe.tr ?_ (Below.alloc (Below.refl _ _) (Nat.le_refl _) _)) Qn (by simpa using YP)) (Nat.le_refl _) _
      by_cases hjk:j<k
      ·rw[List.getElem?_append_left (by rw[hvl.out];exact hjk)]at hj
       exact HSF.out j a hj
      ·have af5:j=k:=by
        rcases Nat.lt_or_ge j (vs++[((va,vl,vc),(ea,el,ec))]).length with h|h
        ·simp[hvl.out]at h;omega
        ·rw[List.getElem?_eq_none h]at hj;cases hj
       subst af5
       rw[List.getElem?_append_right (by rw[hvl.out];exact Nat.le_refl _),hvl.out,Nat.sub_self]at hj
       cases hj
       exact HNN.out
     have R4:Hid (Below w.heap.size w (w69.setCell ⟨w.heap.size+1,0,none⟩ (.slice ga gl gc))):=Lib.hid (low_set (iM Qn (low_alloc HBW.out (Nat.le_refl _) _) HNV.out.block (by omega) (Nat.le_refl _)) (Nat.le_succ _) _)
     have R5:Hid (w.heap.size+2<=(w69.setCell ⟨w.heap.size+1,0,none⟩ (.slice ga gl gc)).heap.size):=Lib.hid (by have h1:=Qn.size;have h2:=HS2.out;simp[World.setCell]at h1⊢;omega)
     have R7:Hid (aj (w69.setCell ⟨w.heap.size+1,0,none⟩ (.slice ga gl gc)) w.heap.size #[.slice none 0 0,.slice none 0 0] 61):=Lib.hid ((bK Qn (HRC.out.alloc _) (λj hj=>by have:=HNV.out.block j hj;omega)).other (by simp) _)
     have R6:Hid ((vs++[((va,vl,vc),(ea,el,ec))]).length=k+1):=Lib.hid (by simp[hvl.out])
     clear o69 Qn YP HNV HGB HSF HNN HBW HS2
     go_wp2_with fail
     exact⟨⟨k+1,_,_,by omega,by go_num,R6,R1,R2,R3,R4,R5,R7⟩,by simp[intOf];omega⟩
  ·obtain rfl:k=m:=by omega
   have FV:Hid (Safe W1 (w.heap.size+1) none λW=>nM W nv (lX x)):=Lib.hid λW' hs hb=>by
    refine⟨vs,?_,vU zL ho.out (Nat.lt_succ_self _) (r:=none) (λj hj=>by cases hj) W' hs hb,λi a b ha hb2=> ?_⟩
    ·rw[hvl.out];unfold lX;simp[HM.out]
    ·obtain⟨hi,e⟩:i<nN x/\b=(bf x i,dI x i):=by
      unfold lX at hb2
      rw[List.getElem?_map]at hb2
      rcases Nat.lt_or_ge i (nN x)with h|h
      ·rw[List.getElem?_range h]at hb2
       exact⟨h,by simpa using hb2.symm⟩
      ·rw[List.getElem?_eq_none (by simpa using h)]at hb2;cases hb2
     subst e
     exact hsafe.out i a ha W' hs λj hj h1 _=>hb j hj h1 (by simp)
   obtain⟨Sr,Sv,Sz,rfl⟩:=aH ho.out zL
   obtain⟨RL,hRL⟩:∃l,l=(x.roots.take 5).map λc=>aC c ((k:Int)+1)-1:=⟨_,rfl⟩
   have HRL:=Lib.hid hRL
   have HRQ:Hid (∀q(h:q<x.roots.length),q<5->RL.take (q+1)=RL.take q++[aC x.roots[q] ((k:Int)+1)-1]):=Lib.hid λq h h5=>by
    rw[hRL,List.take_add_one,List.getElem?_map,List.getElem?_take,if_pos h5,List.getElem?_eq_getElem h]
    rfl
   have Xu:Hid (RL.length=min 5 x.roots.length):=Lib.hid (by rw[hRL];simp)
   clear hRL hsafe ho hvl
   generalize W1=W3 at*
   go_wp2_with fail
   go_loopw [10] (λi wr=>∃(q:Nat)(qv:Value),q<=x.roots.length/\q<=5/\i=.int .i64 q/\Hid (aj wr (w.heap.size+1) #[.slice Sr Sv Sz,qv] 61)/\Hid (ak 3 1 zK wr W3.heap.size qv (RL.take q))/\Hid (Below w.heap.size w wr)/\Hid (W3.heap.size<=wr.heap.size)/\Hid (∀j,j<W3.heap.size->w.heap.size+1<j->wr.heap[j]? =W3.heap[j]?)/\Hid (aj wr w.heap.size #[.slice none 0 0,.slice none 0 0] 61)) (λi _=>5-(intOf i).toNat)
   case atStart=>exact⟨0,_,Nat.zero_le _,Nat.zero_le _,rfl,hblk,Lib.hid (ak.nil _ _),hb,Lib.hid (Nat.le_refl _),Lib.hid (λ_ _ _=>rfl),hrc⟩
   case round=>
    obtain⟨q,qv,hq,hq5,rfl,hbk,hop,hb2,hs2,hsm,hrd⟩:=hrel
    have hbk0:=hbk.out
    obtain⟨lk,ck,fk⟩:=hbk0.get
    by_cases hl2:q<x.roots.length/\q<5
    ·obtain⟨l1,l2⟩:=hl2
     have l1i:(q:Int)<(x.roots.length:Int):=by omega
     have l2i:(q:Int)<5:=by omega
     have hra:=r1 (by omega)
     subst hra
     have hcq:=ah hb2.out (HRS.out.at (i:=q) (List.getElem?_eq_getElem l1) 0 _ rfl)
     rw[Nat.mul_one,Nat.add_zero]at hcq
     obtain⟨Uw,Ux⟩:=HX.out.roots x.roots[q] (List.getElem_mem l1)
     have HS:=Lib.hid (HRQ.out q l1 l2)
     generalize x.roots[q]=c at*
     go_upto_region 16 with(fail)
     have hpk:=dw c (n:=(k:Int)+1) (by omega)
     have Iu:Hid (∀W,Calls Tryz.prog 80 #[.int .i64 c,.int .i64 ((k:Int)+1)] W λe w'=>e=.returned (.int .i64 (aC c ((k:Int)+1)))/\W=w'):=Lib.hid λW=>FU c ((k:Int)+1) W (by omega) (by omega) Uw Ux
     have L8:IntKind.i64.wrap ((k:Int)+1)=(k:Int)+1:=IntWalk.i64_in _ (by omega)
     have Ht:IntKind.i64.wrap (aC c ((k:Int)+1)-1)=aC c ((k:Int)+1)-1:=IntWalk.i64_in _ (by omega)
     have OE:Hid ((RL.take q).length+1<100000000000):=Lib.hid (by simp;omega)
     obtain⟨M1,hwm⟩:∃M,IntKind.i64.wrap ((k:Int)+1)=M:=⟨_,rfl⟩
     rw[hwm]at L8
     have FW:=HS.out
     rw[<-L8]at Iu Ht FW
     generalize aC c M1=Y at*
     obtain⟨P1,hwp⟩:∃M,IntKind.i64.wrap (Y-1)=M:=⟨_,rfl⟩
     rw[hwp]at Ht
     rw[<-Ht]at FW
     replace HS:=Lib.hid FW
     clear Uw Ux hpk L8 Ht FW
     generalize RL.take q=done at*
     have hS1:wr.cell? ⟨rb,ro+q,none⟩=some (.int .i64 c):=hcq
     have hsB:W3.heap.size<=wr.heap.size:=hs2.out
     have hg3:w.heap.size+1<W3.heap.size:=by have:=hblk.out.lt;omega
     have hrb:rb<w.heap.size:=r5 (by omega)
     refine wp_region_held_drew (S:=(λw'=>w'.cell? ⟨rb,ro+q,none⟩=some (.int .i64 c))) (by kernel_rfl) ?_ (λhHeld=> ?_)
     ·(try dsimp only);refine jw (W:=wr) (N:=w.heap.size) ?_ hrb hS1;(first|(repeat(first|with_reducible exact Below.refl _ _|with_reducible assumption|with_reducible refine low_alloc ?_ (by omega) _|with_reducible refine aI ?_|with_reducible refine low_set ?_ (by first|omega|(simp;done)|(simp;omega)) _)))
     refine tk 0 ?_
     refine tk 2 ?_
     refine tk 3 ?_
     refine tk 4 ?_
     refine tk 5 ?_
     refine tk 6 ?_
     refine tk 7 ?_
     refine wpAnyH_ready (rs:=[1,8]) (by kernel_rfl) (by simp) ?_
     refine AllReadyH.cons rfl (λK hK=> ?_) (AllReadyH.cons rfl (λK hK=> ?_) AllReadyH.nil)
     ·go_simp
      refine hK.out _ _ ?_ (λhHeld=> ?_)
      ·(try dsimp only);refine jw (W:=wr) (N:=w.heap.size) ?_ hrb hS1;(first|(repeat(first|with_reducible exact Below.refl _ _|with_reducible assumption|with_reducible refine low_alloc ?_ (by omega) _|with_reducible refine aI ?_|with_reducible refine low_set ?_ (by first|omega|(simp;done)|(simp;omega)) _)))
      clear hK K
      try simp only[List.getElem_toArray,List.getElem_cons_succ,List.getElem_cons_zero,Act.put,List.setIfInBounds_toArray,List.set_cons_zero,List.set_cons_succ]
      refine co 8 λK hK=> ?_
      go_simp
      go_at_call 80;refine(Iu.out _).mono ?_;rintro e ww ⟨rfl,rfl⟩
      refine hK.out _ _ ?_ (λhHeld=> ?_)
      ·(try dsimp only);refine jw (W:=wr) (N:=w.heap.size) ?_ hrb hS1;(first|(repeat(first|with_reducible exact Below.refl _ _|with_reducible assumption|with_reducible refine low_alloc ?_ (by omega) _|with_reducible refine aI ?_|with_reducible refine low_set ?_ (by first|omega|(simp;done)|(simp;omega)) _)))
      clear hK K
      refine nx ?_
      refine tk 9 ?_
      refine co 10 λK hK=> ?_
      go_simp
      skip
      refine hK.out _ _ ?_ (λhHeld=> ?_)
      ·(try dsimp only);refine jw (W:=wr) (N:=w.heap.size) ?_ hrb hS1;(first|(repeat(first|with_reducible exact Below.refl _ _|with_reducible assumption|with_reducible refine low_alloc ?_ (by omega) _|with_reducible refine aI ?_|with_reducible refine low_set ?_ (by first|omega|(simp;done)|(simp;omega)) _)))
      clear hK K
      refine nx ?_
      refine wpAnyH_ready (rs:=[11]) (by kernel_rfl) (by simp) ?_
      refine AllReadyH.cons rfl (λK hK=> ?_) AllReadyH.nil
      refine AX rfl (.tmp 82) (.tmp 91) rfl W3.heap.size qv _ done [P1] rfl rfl ?c0 ?c1 OE.out ?c2 ?c3
      case c0=>refine hop.out.tr ?_;exact bm
      case c1=>first|exact sN _ _ rfl|exact(sN _ _ rfl).drew
      case c2=>first|exact hsB|exact Nat.le_trans hsB (by simp)
      case c3=>
      intro v48 nO AY jm sO
      obtain⟨va,vl,vc,rfl⟩:=aH AY jE
      have oH:=bK (n:=w.heap.size+1) (cs:= #[.slice Sr Sv Sz,qv]) (T:=61) jm (by exact bk) (λj hj=>by have:=hop.out.block j hj;omega)
      obtain⟨l48,Sm,f48⟩:=oH.get
      have hb48:Below w.heap.size w nO:=dF jm (by have:=hb2.out;(repeat(first|with_reducible exact Below.refl _ _|with_reducible assumption|with_reducible refine low_alloc ?_ (by omega) _|with_reducible refine aI ?_|with_reducible refine low_set ?_ (by first|omega|(simp;done)|(simp;omega)) _))) (Nat.le_refl _) (λj hj=>by have:=hop.out.block j hj;omega)
      have Uy:Below w.heap.size wr nO:=dF jm (by(repeat(first|with_reducible exact Below.refl _ _|with_reducible assumption|with_reducible refine low_alloc ?_ (by omega) _|with_reducible refine aI ?_|with_reducible refine low_set ?_ (by first|omega|(simp;done)|(simp;omega)) _))) (by omega) (λj hj=>by have:=hop.out.block j hj;omega)
      have yH:Below W3.heap.size wr nO:=dF jm (by(repeat(first|with_reducible exact Below.refl _ _|with_reducible assumption|with_reducible refine low_alloc ?_ (by omega) _|with_reducible refine aI ?_|with_reducible refine low_set ?_ (by first|omega|(simp;done)|(simp;omega)) _))) (by omega) hop.out.block
      refine hK.out _ _ ?_ (λhHeld=> ?_)
      ·(try dsimp only);refine jw (W:=wr) (N:=w.heap.size) ?_ hrb hS1;(first|(repeat(first|with_reducible exact Below.refl _ _|with_reducible assumption|with_reducible refine low_alloc ?_ (by omega) _|with_reducible refine aI ?_|with_reducible refine low_set ?_ (by first|omega|(simp;done)|(simp;omega)) _)))
      clear hK K
      try simp only[List.getElem_toArray,List.getElem_cons_succ,List.getElem_cons_zero,Act.put,List.setIfInBounds_toArray,List.set_cons_zero,List.set_cons_succ]
      refine tk 12 ?_
      refine co 13 λK hK=> ?_
      go_simp
      skip
      refine hK.out _ _ ?_ (λhHeld=> ?_)
      ·(try dsimp only);refine jw (W:=wr) (N:=w.heap.size) ?_ hrb hS1;(first|(repeat(first|with_reducible exact Below.refl _ _|with_reducible assumption|with_reducible refine low_alloc ?_ (by omega) _|with_reducible refine aI ?_|with_reducible refine low_set ?_ (by first|omega|(simp;done)|(simp;omega)) _)))
      clear hK K
      refine nx ?_
      refine wpAnyH_done (by kernel_rfl) ?_ _
      have HR1:Hid (Below w.heap.size w (nO.setCell ⟨w.heap.size+1,1,none⟩ (.slice va vl vc))):=Lib.hid (low_set hb48 (Nat.le_succ _) _)
      have HR2:Hid (aj (nO.setCell ⟨w.heap.size+1,1,none⟩ (.slice va vl vc)) (w.heap.size+1) #[.slice Sr Sv Sz,.slice va vl vc] 61):=Lib.hid (oH.set 1 (.slice va vl vc))
      have HR3:Hid (ak 3 1 zK (nO.setCell ⟨w.heap.size+1,1,none⟩ (.slice va vl vc)) W3.heap.size (.slice va vl vc) (RL.take (q+1))):=Lib.hid (by rw[HS.out];exact ak.aU AY hg3 _)
      have HR4:Hid (W3.heap.size<=(nO.setCell ⟨w.heap.size+1,1,none⟩ (.slice va vl vc)).heap.size):=Lib.hid (by have:=yH.size;simp[World.setCell];omega)
      have HR5:Hid (∀j,j<W3.heap.size->w.heap.size+1<j->(nO.setCell ⟨w.heap.size+1,1,none⟩ (.slice va vl vc)).heap[j]? =W3.heap[j]?):=Lib.hid λj h1 h2=>(Below.heap_setCell nO ⟨w.heap.size+1,1,none⟩ _ j (by show j≠w.heap.size+1;omega)).trans ((yH.block j h1).trans (hsm.out j h1 h2))
      have Uz:=hrd.out
      have y7:Hid (aj (nO.setCell ⟨w.heap.size+1,1,none⟩ (.slice va vl vc)) w.heap.size #[.slice none 0 0,.slice none 0 0] 61):=Lib.hid ((bK jm (by exact bk) (λj hj=>by have:=hop.out.block j hj;omega)).other (by simp) _)
      clear hb48 Uy yH oH AY jm sO l48 Sm f48 Uz
      go_wp2_with fail
      exact⟨⟨q+1,_,by omega,by omega,by go_num,HR2,HR3,HR1,HR4,HR5,y7⟩,by simp[intOf];omega⟩
     ·go_simp
      go_at_call 80
      refine(Iu.out _).mono ?_;rintro e ww ⟨rfl,rfl⟩
      refine hK.out _ _ ?_ (λhHeld=> ?_)
      ·(try dsimp only);refine jw (W:=wr) (N:=w.heap.size) ?_ hrb hS1;(first|(repeat(first|with_reducible exact Below.refl _ _|with_reducible assumption|with_reducible refine low_alloc ?_ (by omega) _|with_reducible refine aI ?_|with_reducible refine low_set ?_ (by first|omega|(simp;done)|(simp;omega)) _)))
      clear hK K
      try simp only[List.getElem_toArray,List.getElem_cons_succ,List.getElem_cons_zero,Act.put,List.setIfInBounds_toArray,List.set_cons_zero,List.set_cons_succ]
      refine tk 9 ?_
      refine wpAnyH_ready (rs:=[1,10]) (by kernel_rfl) (by simp) ?_
      refine AllReadyH.cons rfl (λK hK=> ?_) (AllReadyH.cons rfl (λK hK=> ?_) AllReadyH.nil)
      ·go_simp
       refine hK.out _ _ ?_ (λhHeld=> ?_)
       ·(try dsimp only);refine jw (W:=wr) (N:=w.heap.size) ?_ hrb hS1;(first|(repeat(first|with_reducible exact Below.refl _ _|with_reducible assumption|with_reducible refine low_alloc ?_ (by omega) _|with_reducible refine aI ?_|with_reducible refine low_set ?_ (by first|omega|(simp;done)|(simp;omega)) _)))
       clear hK K
       try simp only[List.getElem_toArray,List.getElem_cons_succ,List.getElem_cons_zero,Act.put,List.setIfInBounds_toArray,List.set_cons_zero,List.set_cons_succ]
       refine co 10 λK hK=> ?_
       go_simp
       skip
       refine hK.out _ _ ?_ (λhHeld=> ?_)
       ·(try dsimp only);refine jw (W:=wr) (N:=w.heap.size) ?_ hrb hS1;(first|(repeat(first|with_reducible exact Below.refl _ _|with_reducible assumption|with_reducible refine low_alloc ?_ (by omega) _|with_reducible refine aI ?_|with_reducible refine low_set ?_ (by first|omega|(simp;done)|(simp;omega)) _)))
       clear hK K
       refine nx ?_
       refine wpAnyH_ready (rs:=[11]) (by kernel_rfl) (by simp) ?_
       refine AllReadyH.cons rfl (λK hK=> ?_) AllReadyH.nil
       refine AX rfl (.tmp 82) (.tmp 91) rfl W3.heap.size qv _ done [P1] rfl rfl ?c0 ?c1 OE.out ?c2 ?c3
       case c0=>refine hop.out.tr ?_;exact bm
       case c1=>first|exact sN _ _ rfl|exact(sN _ _ rfl).drew
       case c2=>first|exact hsB|exact Nat.le_trans hsB (by simp)
       case c3=>
       intro v48 nO AY jm sO
       obtain⟨va,vl,vc,rfl⟩:=aH AY jE
       have oH:=bK (n:=w.heap.size+1) (cs:= #[.slice Sr Sv Sz,qv]) (T:=61) jm (by exact bk) (λj hj=>by have:=hop.out.block j hj;omega)
       obtain⟨l48,Sm,f48⟩:=oH.get
       have hb48:Below w.heap.size w nO:=dF jm (by have:=hb2.out;(repeat(first|with_reducible exact Below.refl _ _|with_reducible assumption|with_reducible refine low_alloc ?_ (by omega) _|with_reducible refine aI ?_|with_reducible refine low_set ?_ (by first|omega|(simp;done)|(simp;omega)) _))) (Nat.le_refl _) (λj hj=>by have:=hop.out.block j hj;omega)
       have Uy:Below w.heap.size wr nO:=dF jm (by(repeat(first|with_reducible exact Below.refl _ _|with_reducible assumption|with_reducible refine low_alloc ?_ (by omega) _|with_reducible refine aI ?_|with_reducible refine low_set ?_ (by first|omega|(simp;done)|(simp;omega)) _))) (by omega) (λj hj=>by have:=hop.out.block j hj;omega)
       have yH:Below W3.heap.size wr nO:=dF jm (by(repeat(first|with_reducible exact Below.refl _ _|with_reducible assumption|with_reducible refine low_alloc ?_ (by omega) _|with_reducible refine aI ?_|with_reducible refine low_set ?_ (by first|omega|(simp;done)|(simp;omega)) _))) (by omega) hop.out.block
       refine hK.out _ _ ?_ (λhHeld=> ?_)
       ·(try dsimp only);refine jw (W:=wr) (N:=w.heap.size) ?_ hrb hS1;(first|(repeat(first|with_reducible exact Below.refl _ _|with_reducible assumption|with_reducible refine low_alloc ?_ (by omega) _|with_reducible refine aI ?_|with_reducible refine low_set ?_ (by first|omega|(simp;done)|(simp;omega)) _)))
       clear hK K
       try simp only[List.getElem_toArray,List.getElem_cons_succ,List.getElem_cons_zero,Act.put,List.setIfInBounds_toArray,List.set_cons_zero,List.set_cons_succ]
       refine tk 12 ?_
       refine co 13 λK hK=> ?_
       go_simp
       skip
       refine hK.out _ _ ?_ (λhHeld=> ?_)
       ·(try dsimp only);refine jw (W:=wr) (N:=w.heap.size) ?_ hrb hS1;(first|(repeat(first|with_reducible exact Below.refl _ _|with_reducible assumption|with_reducible refine low_alloc ?_ (by omega) _|with_reducible refine aI ?_|with_reducible refine low_set ?_ (by first|omega|(simp;done)|(simp;omega)) _)))
       clear hK K
       refine nx ?_
       refine wpAnyH_done (by kernel_rfl) ?_ _
       have HR1:Hid (Below w.heap.size w (nO.setCell ⟨w.heap.size+1,1,none⟩ (.slice va vl vc))):=Lib.hid (low_set hb48 (Nat.le_succ _) _)
       have HR2:Hid (aj (nO.setCell ⟨w.heap.size+1,1,none⟩ (.slice va vl vc)) (w.heap.size+1) #[.slice Sr Sv Sz,.slice va vl vc] 61):=Lib.hid (oH.set 1 (.slice va vl vc))
       have HR3:Hid (ak 3 1 zK (nO.setCell ⟨w.heap.size+1,1,none⟩ (.slice va vl vc)) W3.heap.size (.slice va vl vc) (RL.take (q+1))):=Lib.hid (by rw[HS.out];exact ak.aU AY hg3 _)
       have HR4:Hid (W3.heap.size<=(nO.setCell ⟨w.heap.size+1,1,none⟩ (.slice va vl vc)).heap.size):=Lib.hid (by have:=yH.size;simp[World.setCell];omega)
       have HR5:Hid (∀j,j<W3.heap.size->w.heap.size+1<j->(nO.setCell ⟨w.heap.size+1,1,none⟩ (.slice va vl vc)).heap[j]? =W3.heap[j]?):=Lib.hid λj h1 h2=>(Below.heap_setCell nO ⟨w.heap.size+1,1,none⟩ _ j (by show j≠w.heap.size+1;omega)).trans ((yH.block j h1).trans (hsm.out j h1 h2))
       have Uz:=hrd.out
       have y7:Hid (aj (nO.setCell ⟨w.heap.size+1,1,none⟩ (.slice va vl vc)) w.heap.size #[.slice none 0 0,.slice none 0 0] 61):=Lib.hid ((bK jm (by exact bk) (λj hj=>by have:=hop.out.block j hj;omega)).other (by simp) _)
       clear hb48 Uy yH oH AY jm sO l48 Sm f48 Uz
       go_wp2_with fail
       exact⟨⟨q+1,_,by omega,by omega,by go_num,HR2,HR3,HR1,HR4,HR5,y7⟩,by simp[intOf];omega⟩
      ·go_simp
       refine hK.out _ _ ?_ (λhHeld=> ?_)
       ·(try dsimp only);refine jw (W:=wr) (N:=w.heap.size) ?_ hrb hS1;(first|(repeat(first|with_reducible exact Below.refl _ _|with_reducible assumption|with_reducible refine low_alloc ?_ (by omega) _|with_reducible refine aI ?_|with_reducible refine low_set ?_ (by first|omega|(simp;done)|(simp;omega)) _)))
       clear hK K
       try simp only[List.getElem_toArray,List.getElem_cons_succ,List.getElem_cons_zero,Act.put,List.setIfInBounds_toArray,List.set_cons_zero,List.set_cons_succ]
       refine co 1 λK hK=> ?_
       go_simp
       skip
       refine hK.out _ _ ?_ (λhHeld=> ?_)
       ·(try dsimp only);refine jw (W:=wr) (N:=w.heap.size) ?_ hrb hS1;(first|(repeat(first|with_reducible exact Below.refl _ _|with_reducible assumption|with_reducible refine low_alloc ?_ (by omega) _|with_reducible refine aI ?_|with_reducible refine low_set ?_ (by first|omega|(simp;done)|(simp;omega)) _)))
       clear hK K
       refine nx ?_
       refine wpAnyH_ready (rs:=[11]) (by kernel_rfl) (by simp) ?_
       refine AllReadyH.cons rfl (λK hK=> ?_) AllReadyH.nil
       refine AX rfl (.tmp 82) (.tmp 91) rfl W3.heap.size qv _ done [P1] rfl rfl ?c0 ?c1 OE.out ?c2 ?c3
       case c0=>refine hop.out.tr ?_;exact bm
       case c1=>first|exact sN _ _ rfl|exact(sN _ _ rfl).drew
       case c2=>first|exact hsB|exact Nat.le_trans hsB (by simp)
       case c3=>
       intro v48 nO AY jm sO
       obtain⟨va,vl,vc,rfl⟩:=aH AY jE
       have oH:=bK (n:=w.heap.size+1) (cs:= #[.slice Sr Sv Sz,qv]) (T:=61) jm (by exact bk) (λj hj=>by have:=hop.out.block j hj;omega)
       obtain⟨l48,Sm,f48⟩:=oH.get
       have hb48:Below w.heap.size w nO:=dF jm (by have:=hb2.out;(repeat(first|with_reducible exact Below.refl _ _|with_reducible assumption|with_reducible refine low_alloc ?_ (by omega) _|with_reducible refine aI ?_|with_reducible refine low_set ?_ (by first|omega|(simp;done)|(simp;omega)) _))) (Nat.le_refl _) (λj hj=>by have:=hop.out.block j hj;omega)
       have Uy:Below w.heap.size wr nO:=dF jm (by(repeat(first|with_reducible exact Below.refl _ _|with_reducible assumption|with_reducible refine low_alloc ?_ (by omega) _|with_reducible refine aI ?_|with_reducible refine low_set ?_ (by first|omega|(simp;done)|(simp;omega)) _))) (by omega) (λj hj=>by have:=hop.out.block j hj;omega)
       have yH:Below W3.heap.size wr nO:=dF jm (by(repeat(first|with_reducible exact Below.refl _ _|with_reducible assumption|with_reducible refine low_alloc ?_ (by omega) _|with_reducible refine aI ?_|with_reducible refine low_set ?_ (by first|omega|(simp;done)|(simp;omega)) _))) (by omega) hop.out.block
       refine hK.out _ _ ?_ (λhHeld=> ?_)
       ·(try dsimp only);refine jw (W:=wr) (N:=w.heap.size) ?_ hrb hS1;(first|(repeat(first|with_reducible exact Below.refl _ _|with_reducible assumption|with_reducible refine low_alloc ?_ (by omega) _|with_reducible refine aI ?_|with_reducible refine low_set ?_ (by first|omega|(simp;done)|(simp;omega)) _)))
       clear hK K
       try simp only[List.getElem_toArray,List.getElem_cons_succ,List.getElem_cons_zero,Act.put,List.setIfInBounds_toArray,List.set_cons_zero,List.set_cons_succ]
       refine tk 12 ?_
       refine co 13 λK hK=> ?_
       go_simp
       skip
       refine hK.out _ _ ?_ (λhHeld=> ?_)
       ·(try dsimp only);refine jw (W:=wr) (N:=w.heap.size) ?_ hrb hS1;(first|(repeat(first|with_reducible exact Below.refl _ _|with_reducible assumption|with_reducible refine low_alloc ?_ (by omega) _|with_reducible refine aI ?_|with_reducible refine low_set ?_ (by first|omega|(simp;done)|(simp;omega)) _)))
       clear hK K
       refine nx ?_
       refine wpAnyH_done (by kernel_rfl) ?_ _
       have HR1:Hid (Below w.heap.size w (nO.setCell ⟨w.heap.size+1,1,none⟩ (.slice va vl vc))):=Lib.hid (low_set hb48 (Nat.le_succ _) _)
       have HR2:Hid (aj (nO.setCell ⟨w.heap.size+1,1,none⟩ (.slice va vl vc)) (w.heap.size+1) #[.slice Sr Sv Sz,.slice va vl vc] 61):=Lib.hid (oH.set 1 (.slice va vl vc))
       have HR3:Hid (ak 3 1 zK (nO.setCell ⟨w.heap.size+1,1,none⟩ (.slice va vl vc)) W3.heap.size (.slice va vl vc) (RL.take (q+1))):=Lib.hid (by rw[HS.out];exact ak.aU AY hg3 _)
       have HR4:Hid (W3.heap.size<=(nO.setCell ⟨w.heap.size+1,1,none⟩ (.slice va vl vc)).heap.size):=Lib.hid (by have:=yH.size;simp[World.setCell];omega)
       have HR5:Hid (∀j,j<W3.heap.size->w.heap.size+1<j->(nO.setCell ⟨w.heap.size+1,1,none⟩ (.slice va vl vc)).heap[j]? =W3.heap[j]?):=Lib.hid λj h1 h2=>(Below.heap_setCell nO ⟨w.heap.size+1,1,none⟩ _ j (by show j≠w.heap.size+1;omega)).trans ((yH.block j h1).trans (hsm.out j h1 h2))
       have Uz:=hrd.out
       have y7:Hid (aj (nO.setCell ⟨w.heap.size+1,1,none⟩ (.slice va vl vc)) w.heap.size #[.slice none 0 0,.slice none 0 0] 61):=Lib.hid ((bK jm (by exact bk) (λj hj=>by have:=hop.out.block j hj;omega)).other (by simp) _)
       clear hb48 Uy yH oH AY jm sO l48 Sm f48 Uz
       go_wp2_with fail
       exact⟨⟨q+1,_,by omega,by omega,by go_num,HR2,HR3,HR1,HR4,HR5,y7⟩,by simp[intOf];omega⟩
    ·have HTK:Hid (RL.take q=RL):=Lib.hid (List.take_of_length_le (by rw[Xu.out];omega))
     rw[HTK.out]at hop
     go_upto_region 14 with(fail)
     go_cut [78] (λv wx=>v=.bool false/\wx=wr)
     case first=>
      go_wp2_with fail
      all_goals (try simp only[decide_eq_true_eq,decide_eq_false_iff_not]at*)
      all_goals first
       |(exfalso;omega)
       |(go_meet;first|exact⟨rfl,rfl⟩|exact⟨congrArg Value.bool (decide_eq_false (by omega)),rfl⟩)
     case rest=>
     obtain⟨rfl,hwc⟩:=hcut
     subst hwc
     obtain⟨qa,qc,eq,_⟩:=hop.out.form jE
     obtain⟨ql,hql⟩:∃n,n=RL.length:=⟨_,rfl⟩
     rw[<-hql]at eq
     subst eq
     have HQL:Hid (ql=RL.length):=Lib.hid hql
     clear hql
     have hg3:w.heap.size+1<W3.heap.size:=by have:=hblk.out.lt;omega
     by_cases hre:x.roots.length=0
     ·have hq0:((ql:Int)==0)=true:=by rw[HQL.out,Xu.out,hre];rfl
      have hwk:IntKind.i64.wrap ((k:Int)-1)=(k:Int)-1:=IntWalk.i64_in _ (by omega)
      have hR0:RL=[]:=List.eq_nil_of_length_eq_zero (by rw[Xu.out];omega)
      subst hR0
      have ZM:Hid (bI x=[(k:Int)-1]):=Lib.hid (by unfold bI;rw[if_pos (List.eq_nil_of_length_eq_zero hre),HM.out])
      go_wp2_with (at_builtin;refine acA _ rfl _ _ rfl W3.heap.size _ _ [] [(k:Int)-1] rfl rfl (hop.out.tr ?d0) (sN _ _ rfl) ?d1 ?d2 ?d3)
      case d0=>exact bm
      case d1=>simp
      case d2=>have:=hs2.out;simp;omega
      case d3=>
      intro v48 nO AY jm sO
      obtain⟨va,vl,vc,rfl⟩:=aH AY jE
      have oH:=bK (n:=w.heap.size+1) (cs:= #[.slice Sr Sv Sz,.slice qa ql qc]) (T:=61) jm (by exact bk) (λj hj=>by have:=hop.out.block j hj;omega)
      obtain⟨l48,Sm,f48⟩:=oH.get
      have hs3:=hs2.out
      have hb48:Below w.heap.size w nO:=dF jm (low_alloc hb2.out (Nat.le_refl _) _) (Nat.le_refl _) (λj hj=>by have:=hop.out.block j hj;omega)
      have yH:Below W3.heap.size wc nO:=dF jm (low_alloc (Below.refl _ _) (by omega) _) (by omega) hop.out.block
      have CG:=Lib.hid (Safe.go FV.out (W1:=nO) (r':=none) (Nat.le_trans hs3 yH.size) (λj h1 h2 _=>(yH.block j h1).trans (hsm.out j h1 h2)) (λj _ e=>e))
      have HQ2:=Lib.hid (vU jE AY hg3 (r:=none) (λj hj=>by cases hj))
      have HB2:=Lib.hid hb48
      have hkr:=bK jm (hrd.out.alloc _) (λj hj=>by have:=hop.out.block j hj;omega)
      obtain⟨lr,cr,fr⟩:=hkr.get
      clear yH jm sO AY hb48
      go_wp2_with fail
      refine bodyPost_ret (v:=.agg #[.slice Sr Sv Sz,.slice va vl vc]) (by simp only[results,Tryz.results56];go_simp) rfl ⟨⟨.slice Sr Sv Sz,.slice va vl vc,rfl,?_,?_⟩,?_⟩
      ·exact Safe.set (Safe.set (Safe.set CG.out (Nat.le_refl _) _) (Nat.le_succ _) _) (Nat.le_succ _) _
      ·rw[ZM.out]
       exact Safe.set (Safe.set (Safe.set HQ2.out (Nat.le_refl _) _) (Nat.le_succ _) _) (Nat.le_succ _) _
      ·exact low_set (low_set (low_set HB2.out (Nat.le_succ _) _) (Nat.le_refl _) _) (Nat.le_refl _) _
     ·have hq0:((ql:Int)==0)=false:=by have h1:=HQL.out;have h2:=Xu.out;rw[beq_eq_false_iff_ne];omega
      have ZM:Hid (bI x=RL):=Lib.hid (by unfold bI;rw[if_neg (λe=>hre (by rw[e];rfl)),HRL.out,HM.out])
      have CG:=Lib.hid (Safe.go FV.out (W1:=wc) (r':=none) hs2.out (λj h1 h2 _=>hsm.out j h1 h2) (λj _ e=>e))
      have HQ2:=Lib.hid (vU jE hop.out hg3 (r:=none) (λj hj=>by cases hj))
      have hkr:=hrd.out
      obtain⟨lr,cr,fr⟩:=hkr.get
      go_wp2_with fail
      refine bodyPost_ret (v:=.agg #[.slice Sr Sv Sz,.slice qa ql qc]) (by simp only[results,Tryz.results56];go_simp) rfl ⟨⟨.slice Sr Sv Sz,.slice qa ql qc,rfl,?_,?_⟩,?_⟩
      ·exact Safe.set (Safe.set CG.out (Nat.le_succ _) _) (Nat.le_succ _) _
      ·rw[ZM.out]
       exact Safe.set (Safe.set HQ2.out (Nat.le_succ _) _) (Nat.le_succ _) _
      ·exact low_set (low_set hb2.out (Nat.le_refl _) _) (Nat.le_refl _) _
end Go.Proofs.YtpgjploaliefdaaGreat.rh
namespace Go.Proofs.YtpgjploaliefdaaGreat.rh
open Go Go.RowKit gr lx
set_option linter.unusedVariables false
set_option linter.unusedSimpArgs false
def bU(W:World)(b:Nat):List (Nat×Value)->World
 |[]=>W
 |q::L=>bU (W.setCell ⟨b,q.1,none⟩ q.2) b L
def rJ(cs:Array Value):List (Nat×Value)->Array Value
 |[]=>cs
 |q::L=>rJ (cs.setIfInBounds q.1 q.2) L
theorem aj.bU:∀{L:List (Nat×Value)}{W:World}{b:Nat}{cs:Array Value}{T:TypeId},aj W b cs T->aj (rh.bU W b L) b (rJ cs L) T
 |[],_,_,_,_,h=>h
 |q::L,_,_,_,_,h=>aj.bU (L:=L) (h.set q.1 q.2)
theorem aj.dQ:∀{L:List (Nat×Value)}{W:World}{n b:Nat}{cs:Array Value}{T:TypeId},aj W n cs T->n≠b->aj (rh.bU W b L) n cs T
 |[],_,_,_,_,_,h,_=>h
 |q::L,_,_,_,_,_,h,e=>aj.dQ (L:=L) (h.other (p:=⟨_,q.1,none⟩) e q.2) e
theorem ak.dQ{α:Type}{k:Nat}{en:α->List Value}{T:TypeId}{B:Nat}{v:Value}{zs:List α}:∀{L:List (Nat×Value)}{W:World}{b:Nat},ak T k en W B v zs->b<B->ak T k en (rh.bU W b L) B v zs
 |[],_,_,h,_=>h
 |q::L,_,_,h,e=>ak.dQ (L:=L) (ak.aU h (p:=⟨_,q.1,none⟩) e q.2) e
theorem fQ{N:Nat}{a:World}:∀{L:List (Nat×Value)}{W:World}{b:Nat},Below N a W->N<=b->Below N a (bU W b L)
 |[],_,_,h,_=>h
 |q::L,_,_,h,e=>fQ (L:=L) (low_set h (p:=⟨_,q.1,none⟩) e q.2) e
theorem Safe.bU{g:Nat}{r:Option Nat}{P:World->Prop}:∀{L:List (Nat×Value)}{W:World}{b:Nat},Safe W g r P->b<=g->Safe (rh.bU W b L) g r P
 |[],_,_,h,_=>h
 |q::L,_,_,h,e=>Safe.bU (L:=L) (Safe.set h (p:=⟨_,q.1,none⟩) e q.2) e
theorem dK{p:Addr}{v:Value}:∀{L:List (Nat×Value)}{W:World}{b:Nat},W.cell? p=some v->p.block≠b->(bU W b L).cell? p=some v
 |[],_,_,h,_=>h
 |q::L,W,b,h,e=>dK (L:=L) ((World.cell?_setCell_other _ _ _ _ (λx=>e (congrArg Addr.block x).symm)).trans h) e
end Go.Proofs.YtpgjploaliefdaaGreat.rh
