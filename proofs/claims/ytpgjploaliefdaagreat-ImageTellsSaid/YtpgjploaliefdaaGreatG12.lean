/- check: the state's note, walked. No conditions. -/
import Derived.Test.YtpgjploaliefdaaGreatTk
import Derived.Test.YtpgjploaliefdaaGreatG11
namespace Go.Proofs.YtpgjploaliefdaaGreat.ck
open Go Go.RowKit hp ob hd cp mp cm gr
set_option linter.unusedVariables false
set_option linter.unusedSimpArgs false
set_option maxRecDepth 100000
set_option maxHeartbeats 4000000
variable {w0 w W : World} {p : Pl} {h : Hp} {v : Hv} {s : dS} {ov : Ov}
theorem uH{L:Lay}{p:Int}:∀{l:List Ob}{o:Ob}{f:Int->Option Int},eX L p (l++[o]) f=I9 (eX L p l f) (qI L p o.pos) p
 |[],o,f=>rfl
 |c::l,o,f=>by
  show eX L p (l++[o]) (I9 f (qI L p c.pos) p)=_
  rw[uH]
  rfl
theorem yM{L:Lay}:∀{l:List Ob}{o:Ob}{f:Int->Option (Int×Int)},gY L (l++[o]) f=KZ (gY L l f) (qI L 1 o.pos) (o.s,o.p)
 |[],o,f=>rfl
 |c::l,o,f=>by
  show gY L (l++[o]) (KZ f (qI L 1 c.pos) (c.s,c.p))=_
  rw[yM]
  rfl
theorem CZ{os:List Ob}{k:Nat}(h:k<os.length):os.take (k+1)=os.take k++[dL os k]:=by
 rw[List.take_add_one]
 simp[dL,List.getD,h]
def oJ(s:dS)(L:Lay)(q:Nat)(l:List Ob)(k:Nat):dS:={Bo s q l with pf:=eX L q (l.take k) s.pf,lf:=if q=1 then gY L (l.take k) s.lf else s.lf}
theorem mid_zero(s:dS)(L:Lay)(q:Nat)(l:List Ob):oJ s L q l 0=Bo s q l:=by
 unfold oJ
 rw[List.take_zero]
 show({Bo s q l with pf:=s.pf,lf:=if q=1 then s.lf else s.lf}:dS)=_
 rw[ite_self]
 rfl
theorem OM(s:dS)(L:Lay)(q:Nat)(l:List Ob):oJ s L q l l.length=s.note L q l:=by
 unfold oJ
 rw[List.take_length]
 rfl
theorem U1(s:dS)(L:Lay)(q:Nat)(l:List Ob)(k:Nat)(hk:k<l.length)(hq:¬q=1):oJ s L q l (k+1)={oJ s L q l k with pf:=I9 (eX L q (l.take k) s.pf) (qI L q (dL l k).pos) q}:=by
 unfold oJ
 rw[CZ hk,uH,if_neg hq,if_neg hq]
theorem QL(s:dS)(L:Lay)(l:List Ob)(k:Nat)(hk:k<l.length):oJ s L 1 l (k+1)={oJ s L 1 l k with pf:=I9 (eX L 1 (l.take k) s.pf) (qI L 1 (dL l k).pos) 1,lf:=KZ (gY L (l.take k) s.lf) (qI L 1 (dL l k).pos) ((dL l k).s,(dL l k).p)}:=by
 unfold oJ
 rw[CZ hk,yM]
 show({Bo s 1 l with pf:=eX L 1 (List.take k l++[dL l k]) s.pf,lf:=_}:dS)=_
 rw[uH]
 rfl
theorem tot_mid(s:dS)(L:Lay)(q:Nat)(l:List Ob)(k:Nat)(hq:1<=q/\q<=4)(he:s.obs q=[]):totF (oJ s L q l k)=totF s+l.length:=by
 unfold totF
 rcases(show q=1\/q=2\/q=3\/q=4 by omega)with rfl|rfl|rfl|rfl
 ·have he1:s.o1=[]:=he
  simp[oJ,Bo,he1];omega
 ·have he1:s.o2=[]:=he
  simp[oJ,Bo,he1];omega
 ·have he1:s.o3=[]:=he
  simp[oJ,Bo,he1]
  omega
 ·have he1:s.o4=[]:=he
  simp[oJ,Bo,he1]
theorem XM{g o n c:Nat}{l:List Ob}(h:bT w (.slice (some ⟨g,o,none⟩) n c) l)(hn:0<l.length):n=l.length/\ig w g o l.length l/\g<w.heap.size:=by
 obtain⟨ad,b,off,cap,e,⟨h1,_⟩,h2,h3,h4,h5⟩:=h
 cases e
 have:=h1 hn
 cases this
 exact⟨rfl,h5,h4⟩
theorem XO(s:dS)(q:Nat)(hq:1<=q/\q<=4)(l:List Ob)(L:Lay)(k:Nat):(oJ s L q l k).obs q=l:=by
 rcases(show q=1\/q=2\/q=3\/q=4 by omega)with rfl|rfl|rfl|rfl<;>rfl
theorem aaj(ov:Ov)(q:Nat)(hq:1<=q/\q<=4)(u:Value):(ov.put q u).part q=u:=by
 rcases(show q=1\/q=2\/q=3\/q=4 by omega)with rfl|rfl|rfl|rfl<;>rfl
theorem aak{W w1:World}{n b c:Nat}(hb:Below n W w1)(hn:b<n)(hc:c<n){a1 a2 a3 a4 a5 a6 a7 a8:Nat}{v1 v2 v3 v4 v5 v6 v7 v8:Value}(h:W.cell? ⟨b,a1,none⟩=some v1/\W.cell? ⟨b,a2,none⟩=some v2/\W.cell? ⟨b,a3,none⟩=some v3/\W.cell? ⟨b,a4,none⟩=some v4/\W.cell? ⟨b,a5,none⟩=some v5/\W.cell? ⟨b,a6,none⟩=some v6/\W.cell? ⟨b,a7,none⟩=some v7/\W.cell? ⟨c,a8,none⟩=some v8):
  w1.cell? ⟨b,a1,none⟩=some v1/\w1.cell? ⟨b,a2,none⟩=some v2/\w1.cell? ⟨b,a3,none⟩=some v3/\w1.cell? ⟨b,a4,none⟩=some v4/\w1.cell? ⟨b,a5,none⟩=some v5/\w1.cell? ⟨b,a6,none⟩=some v6/\w1.cell? ⟨b,a7,none⟩=some v7/\w1.cell? ⟨c,a8,none⟩=some v8:=by
 have hc1:∀o,w1.cell? ⟨b,o,none⟩=W.cell? ⟨b,o,none⟩:=λo=>hb.cell (p:=⟨b,o,none⟩) hn
 have hc2:∀o,w1.cell? ⟨c,o,none⟩=W.cell? ⟨c,o,none⟩:=λo=>hb.cell (p:=⟨c,o,none⟩) hc
 rw[hc1,hc1,hc1,hc1,hc1,hc1,hc1,hc2]
 exact h
structure K3(p:Pl)(W w:World):Prop where
 size:W.heap.size<=w.heap.size
 block:∀b,b<W.heap.size->b≠p.b->b≠p.bp->b≠p.bl->w.heap[b]? =W.heap[b]?
theorem K3.refl(p:Pl)(W:World):K3 p W W:=⟨Nat.le_refl _,λ_ _ _ _ _=>rfl⟩
theorem K3.trans{p:Pl}{A B C:World}(h:K3 p A B)(k:K3 p B C):K3 p A C:=⟨Nat.le_trans h.size k.size,λb h1 h2 h3 h4=>(k.block b (Nat.lt_of_lt_of_le h1 h.size) h2 h3 h4).trans (h.block b h1 h2 h3 h4)⟩
theorem K3.below{p:Pl}{A B:World}(h:Below A.heap.size A B):K3 p A B:=⟨h.size,λb h1 _ _ _=>h.block b h1⟩
theorem K3.grown{p:Pl}{A B:World}{r:Nat}(h:A.grownBy B (some r))(hr:r=p.b\/r=p.bp\/r=p.bl):K3 p A B:=⟨h.size,λb h1 h2 h3 h4=>h.block b h1 (λe=>by cases e;rcases hr with e|e|e<;>contradiction)⟩
theorem K3.blk{p:Pl}{A B:World}{n:Nat}{cs:Array Value}{T:TypeId}(h:K3 p A B)(k:aj A n cs T)(h2:n≠p.b)(h3:n≠p.bp)(h4:n≠p.bl):aj B n cs T:=aj.of ((h.block n k.lt h2 h3 h4).trans k.raw)
theorem note_any(a:St w0 W p h v s ov)(hr:fZ h.lay=true)(q:Nat)(hq:1<=q/\q<=4)(u:Value)(l:List Ob)(hu:cu W p.B u l)(hf:(∀o∈l,lM (h.part q).length o)/\l.length<=(h.part q).length)(he:s.obs q=[]):
  Calls Tryz.prog 111 #[.pointer (some ⟨p.b,0,none⟩),.int .i64 q,u] W λe w'=>e=.returned (.tuple #[])/\St w0 w' p h v (s.note h.lay q l) (ov.put q u)/\K3 p W w':=by
 have hzl:=dN (a.hin.part q).1
 obtain⟨lb,cb,fb⟩:=a.blk.get
 have hos:=nV hu (by omega) (by omega)
 have A1:=Lib.hid (a.ac5 hq hu hf he)
 have hcq:W.cell? ⟨p.b,17+(q-1),none⟩=some (ov.part q):=(cb _).trans (zQ _ _ _ _ _ _ hq)
 have hfq:W.frozen? ⟨p.b,17+(q-1),none⟩=false:=fb _
 have HN1:Hid (∃n,n<=totF s/\dh Tryz.prog 24 (W.setCell ⟨p.b,17+(q-1),none⟩ u) p.bp n (FM s.pf)):=by
  obtain⟨n,h1,h2⟩:=a.pm
  exact⟨n,h1,h2.kept (uG _ _ _) (λe=>a.ok.bp (Option.some.inj e).symm)⟩
 have CG:Hid (∃n,n<=s.o1.length/\dh Tryz.prog 24 (W.setCell ⟨p.b,17+(q-1),none⟩ u) p.bl n (Hf s.lf)):=by
  obtain⟨n,h1,h2⟩:=a.lm
  exact⟨n,h1,h2.kept (uG _ _ _) (λe=>a.ok.bl (Option.some.inj e).symm)⟩
 have htot:totF s<4000000000000:=by
  have h1:=a.f1.2
  have h2:=a.f2.2
  have h3:=a.f3.2
  have h4:=a.f4.2
  have k1:=dN a.hin.low
  have k2:=dN a.hin.high
  have k3:=dN a.hin.old
  have k4:=dN a.hin.far
  unfold totF
  omega
 have akh:s.o1.length<=totF s:=by unfold totF;omega
 have HAd:Hid (∀W(x:Int),0<=x/\x<jG h.lay q->Calls Tryz.prog 125 #[eY h.lay,.agg #[.int .i64 q,.int .i64 x]] W λe w'=>e=.returned (.tuple #[.int .u64 (qI h.lay q x),.int .i64 0])/\Below W.heap.size W w'):=Lib.hid λW x hx=>by
  have:=Jd h.lay q x W a.hin.ok hr hq hx
  rw[<-DC hx]at this
  exact this
 have HK:Hid (∀x:Int,0<=x/\x<jG h.lay q->Sj (qI h.lay q x)):=Lib.hid λx hx=>by
  have:=qO hr (p:=(q:Int)) (by omega) hx
  rw[DC hx]
  unfold Sj
  omega
 have HLn:=Lib.hid (xB h q hq)
 have Eo:=Lib.hid hf.1
 have hll:l.length<1000000000000:=by have:=hf.2;omega
 have aki:=Lib.hid (OM s h.lay q l)
 have HM0:=Lib.hid (mid_zero s h.lay q l)
 have hpb:p.b<W.heap.size:=lb
 have Bj:=Lib.hid a.ok
 have HRG:=Lib.hid a.rg
 have HLR:=Lib.hid a.lr
 obtain⟨oa,ob,off,oc,rfl,⟨o1,o2⟩,o3,⟨o4,o4'⟩,o5,o6⟩:=hos
 have EU:=Lib.hid o1
 clear a cb fb hu hf o1 o2 o6
 generalize hn:l.length=n at*
 have HN:=Lib.hid hn
 clear hn
 obtain⟨hq1,hq2⟩:=hq
 go_enter Tryz.func111,Tryz.ntmps111
 go_wp2_with fail
 go_loopw [19] (λi wr=>∃k:Nat,k<=n/\i=.int .i64 k/\Hid (St w0 wr p h v (oJ s h.lay q l k) (ov.put q (.slice oa n oc)))/\(∃n1,n1<=totF s+k/\Hid (dh Tryz.prog 24 wr p.bp n1 (FM (eX h.lay q (l.take k) s.pf))))/\(∃n2,n2<=s.o1.length+(if q=1 then k else 0)/\Hid (dh Tryz.prog 24 wr p.bl n2 (Hf (if q=1 then gY h.lay (l.take k) s.lf else s.lf))))/\Hid (K3 p W wr)) (λi _=>n-(intOf i).toNat)
 case atStart=>
  obtain⟨n1,h1,h2⟩:=HN1.out
  obtain⟨n2,h3,h4⟩:=CG.out
  refine⟨0,Nat.zero_le _,rfl,?_,⟨n1,by omega,h2⟩,⟨n2,by omega,?_⟩,K3.grown (uG _ _ _) (.inl rfl)⟩
  ·show St _ _ _ _ _ _ _
   rw[HM0.out]
   exact A1.out
  ·show dh _ _ _ _ _ _
   rw[List.take_zero]
   show dh _ _ _ _ _ (Hf (if q=1 then s.lf else s.lf))
   rw[ite_self]
   exact h4
 case round=>
  obtain⟨k,hk,rfl,hst,⟨n1,hn1,hm1⟩,⟨n2,hn2,hm2⟩,hk3⟩:=hrel
  clear HN1 CG A1
  by_cases hlk:k<n
  ·obtain rfl:=EU.out (by omega)
   have hkl:k<l.length:=by have:=HN.out;omega
   have aal:=(hst.out.obs q).1
   rw[aaj _ q ⟨hq1,hq2⟩,XO _ q ⟨hq1,hq2⟩]at aal
   have hws:0<wr.heap.size:=Nat.lt_of_le_of_lt (Nat.zero_le _) hst.out.blk.lt
   obtain⟨hX,hO,hgb⟩:=XM (nV aal hws (by have:=HN.out;omega)) (by omega)
   have hxk:=hO.at k hkl
   obtain⟨f0,f1,f2,f3,f4,f5⟩:=Eo.out _ (kQ hkl)
   have aam:0<=(dL l k).pos/\(dL l k).pos<jG h.lay q:=⟨f0,by have:=HLn.out;omega⟩
   have HA:Hid (∀W,Calls Tryz.prog 125 #[eY h.lay,.agg #[.int .i64 q,.int .i64 (dL l k).pos]] W λe w'=>e=.returned (.tuple #[.int .u64 (qI h.lay q (dL l k).pos),.int .i64 0])/\Below W.heap.size W w'):=Lib.hid λW=>HAd.out W _ aam
   have hky:=HK.out _ aam
   have HMS:Hid (¬q=1->oJ s h.lay q l (k+1)={oJ s h.lay q l k with pf:=I9 (eX h.lay q (l.take k) s.pf) (qI h.lay q (dL l k).pos) q}):=U1 s h.lay q l k hkl
   have ac6:Hid (q=1->oJ s h.lay q l (k+1)={oJ s h.lay q l k with pf:=I9 (eX h.lay q (l.take k) s.pf) (qI h.lay q (dL l k).pos) q,lf:=KZ (gY h.lay (l.take k) s.lf) (qI h.lay q (dL l k).pos) ((dL l k).s,(dL l k).p)}):=λe=>by subst e;exact QL s h.lay l k hkl
   have HTP:Hid (eX h.lay q (l.take (k+1)) s.pf=I9 (eX h.lay q (l.take k) s.pf) (qI h.lay q (dL l k).pos) q):=by show _=_;rw[CZ hkl,uH]
   have HTL:Hid (q=1->gY h.lay (l.take (k+1)) s.lf=KZ (gY h.lay (l.take k) s.lf) (qI h.lay q (dL l k).pos) ((dL l k).s,(dL l k).p)):=λe=>by subst e;rw[CZ hkl,yM];rfl
   have HTT:Hid (totF (oJ s h.lay q l k)=totF s+n):=by show _=_;rw[tot_mid s h.lay q l k ⟨hq1,hq2⟩ he,HN.out]
   clear aam hO aal hX
   generalize qI h.lay q (dL l k).pos=y at*
   generalize dL l k=o at*
   obtain⟨p0,sz,pp,g,t⟩:=o
   obtain⟨x0,x1,x2,x3,x4⟩:=hxk
   dsimp only at x0 x1 x2 x3 x4 f0 f1 f2 f3 f4 f5 HA ac6 HTL
   have Ko:=aj.new wr #[.int .i64 p0,.int .i64 sz,.int .i64 pp,.bool g,.int .u64 t] 58
   have QM:=Lib.hid (hst.out.alloc (.cells #[.int .i64 p0,.int .i64 sz,.int .i64 pp,.bool g,.int .u64 t] 58))
   have HM1:=Lib.hid (hm1.out.tr ((Below.refl _ _).alloc (Nat.le_refl _) (.cells #[.int .i64 p0,.int .i64 sz,.int .i64 pp,.bool g,.int .u64 t] 58)))
   have LD:=Lib.hid (hm2.out.tr ((Below.refl _ _).alloc (Nat.le_refl _) (.cells #[.int .i64 p0,.int .i64 sz,.int .i64 pp,.bool g,.int .u64 t] 58)))
   have HKa:=Lib.hid (hk3.out.trans (K3.below ((Below.refl _ _).alloc (Nat.le_refl _) (.cells #[.int .i64 p0,.int .i64 sz,.int .i64 pp,.bool g,.int .u64 t] 58))))
   have hpo:p.b≠wr.heap.size:=by have:=hst.out.blk.lt;omega
   have agM:p.bp≠wr.heap.size:=by have:=hm1.out.lt;omega
   have ac8:p.bl≠wr.heap.size:=by have:=hm2.out.lt;omega
   go_wp2_with fail
   generalize wr.alloc (.cells #[.int .i64 p0,.int .i64 sz,.int .i64 pp,.bool g,.int .u64 t] 58)=W1 at*
   clear x0 x1 x2 x3 x4 hst hm1 hm2 hgb hws
   generalize wr.heap.size=oB at*
   obtain⟨lo,co,fo⟩:=Ko.get
   obtain⟨lw,cw,fw⟩:=QM.out.blk.get
   have hcc:W1.cell? ⟨p.b,10,none⟩=some (.int .u64 h.base)/\W1.cell? ⟨p.b,11,none⟩=some (.int .i64 h.cap)/\W1.cell? ⟨p.b,12,none⟩=some (.int .i64 h.tt)/\W1.cell? ⟨p.b,13,none⟩=some (.int .i64 h.low.length)/\W1.cell? ⟨p.b,14,none⟩=some (.int .i64 h.high.length)/\W1.cell? ⟨p.b,15,none⟩=some (.int .i64 h.old.length)/\W1.cell? ⟨p.b,16,none⟩=some (.int .i64 h.far.length)/\W1.cell? ⟨oB,0,none⟩=some (.int .i64 p0):=
    ⟨cw 10,cw 11,cw 12,cw 13,cw 14,cw 15,cw 16,co 0⟩
   clear cw co fw fo
   go_region_held3 (λw'=>w'.cell? ⟨p.b,10,none⟩=some (.int .u64 h.base)/\w'.cell? ⟨p.b,11,none⟩=some (.int .i64 h.cap)/\w'.cell? ⟨p.b,12,none⟩=some (.int .i64 h.tt)/\w'.cell? ⟨p.b,13,none⟩=some (.int .i64 h.low.length)/\w'.cell? ⟨p.b,14,none⟩=some (.int .i64 h.high.length)/\w'.cell? ⟨p.b,15,none⟩=some (.int .i64 h.old.length)/\w'.cell? ⟨p.b,16,none⟩=some (.int .i64 h.far.length)/\w'.cell? ⟨oB,0,none⟩=some (.int .i64 p0))
    ((refine aak (W:=W1) (n:=W1.heap.size) ?_ lw lo hcc;exact bm))
    (first
     |(go_at_call 125;refine(HA.out _).mono ?_;rintro e w2 ⟨rfl,k2⟩))
   have kb:Below W1.heap.size W1 w2:=by exact bm
   have HS2:=Lib.hid (QM.out.tr kb)
   have HM3:=Lib.hid (HM1.out.tr kb)
   have HM4:=Lib.hid (LD.out.tr kb)
   have Ko2:=Ko.tr kb
   have HKb:=Lib.hid (HKa.out.trans (K3.below kb))
   clear hcc k2 kb QM HM1 LD Ko lo lw hk3 HKa
   obtain⟨lw,cw,fw⟩:=HS2.out.blk.get
   have c21:w2.cell? ⟨p.b,21,none⟩=some (.map (some p.bp)):=cw 21
   clear cw fw
   have hbp:p.bl≠p.bp:=λe=>Bj.out.pl e.symm
   have HCN:Hid (∀b:Bool,(if b=true then n1 else n1+1)<=totF s+(k+1)/\(if b=true then n1 else n1+1)<=totF s+n):=λb=>by split<;>omega
   have HRP:Hid (∀a' q',I9 (eX h.lay q (l.take k) s.pf) y q a'=some q'->1<=q'/\q'<=4):=λa' q' hq'=>by
    unfold I9 at hq'
    split at hq'
    ·cases hq';omega
    ·exact HS2.out.rg _ _ hq'
   by_cases hqq:q=1
   ·have hqb:((q:Int)==1)=true:=beq_iff_eq.mpr (by omega)
    have hM4:Hid (dh Tryz.prog 24 w2 p.bl n2 (Hf (gY h.lay (l.take k) s.lf))):=by
     have:=HM4.out
     rw[if_pos hqq]at this
     exact this
    rw[if_pos hqq]at hn2
    have he1:s.o1.length=0:=by subst hqq;have he2:s.o1=[]:=he;rw[he2];rfl
    have HQQ:=Lib.hid hqq
    clear HM4 hqq
    go_wp2_with (at_mapUpdate;refine Dk (n:=n1) (b:=p.bp) (k:=24) (f:=FM (eX h.lay q (l.take k) s.pf)) _ rfl _ _ _ _ rfl 3 Tryz.underlying24 Tryz.underlying119 rfl HM3.out (by unfold maxLen;omega) y rfl hky (.int .i64 q) rfl ?_;intro w3 Y0 hG3)
    rw[Ou]at Y0
    obtain⟨hc1,hc2⟩:=HCN.out (FM (eX h.lay q (l.take k) s.pf) y).isSome
    generalize(if(FM (eX h.lay q (l.take k) s.pf) y).isSome=true then n1 else n1+1)=m1 at*
    have QN:=Lib.hid (HKb.out.trans (K3.grown hG3 (.inr (.inl rfl))))
    have A3:=Lib.hid (HS2.out.YZ hG3 (by have:=HTT.out;omega) Y0 HRP.out)
    have Ko3:=iV Ko2 hG3 (λe=>agM (Option.some.inj e))
    have HM6:=Lib.hid (hM4.out.kept hG3 (λe=>hbp (Option.some.inj e)))
    have HM5:=Lib.hid Y0
    obtain⟨lb3,cb3,fb3⟩:=A3.out.blk.get
    obtain⟨lo3,co3,fo3⟩:=Ko3.get
    have hcc:w3.cell? ⟨p.b,22,none⟩=some (.map (some p.bl))/\w3.cell? ⟨oB,1,none⟩=some (.int .i64 sz)/\w3.cell? ⟨oB,2,none⟩=some (.int .i64 pp):=⟨cb3 22,co3 1,co3 2⟩
    have ada:p.b≠p.bl:=Bj.out.bl
    clear cb3 fb3 co3 fo3 hG3 Y0 HS2 HM3 hM4 c21 lw
    refine wp_region_held_drew (S:=(λw'=>w'.cell? ⟨p.b,22,none⟩=some (.map (some p.bl))/\w'.cell? ⟨oB,1,none⟩=some (.int .i64 sz)/\w'.cell? ⟨oB,2,none⟩=some (.int .i64 pp))) (by kernel_rfl) ?_ (λhHeld=> ?_)
    ·(try dsimp only);exact hcc
    refine tk 0 ?_
    refine tk 1 ?_
    refine tk 2 ?_
    refine tk 3 ?_
    refine tk 4 ?_
    refine tk 5 ?_
    refine tk 6 ?_
    refine wpAnyH_ready (rs:=[7]) (by kernel_rfl) (by simp) ?_
    refine AllReadyH.cons rfl (λK hK=> ?_) AllReadyH.nil
    refine MN (n:=n2) (b:=p.bl) (k:=24) (f:=Hf (gY h.lay (l.take k) s.lf)) rfl _ _ _ _ rfl 56 Tryz.underlying24 Tryz.underlying120 rfl (HM6.out.tr (Below.refl _ _).drew) (by unfold maxLen;omega) y rfl hky (.agg #[.int .i64 sz,.int .i64 pp]) rfl ?_
    intro w4 hM7 hG4
    refine hK.out _ _ ⟨H9 hG4 hcc.1 ada,H9 hG4 hcc.2.1 (λe=>ac8 e.symm),H9 hG4 hcc.2.2 (λe=>ac8 e.symm)⟩ (λhHeld=> ?_)
    clear hK K
    refine wpAnyH_done (by kernel_rfl) ?_ _
    have hM8:dh Tryz.prog 24 w4 p.bl (if(Hf (gY h.lay (l.take k) s.lf) y).isSome=true then n2 else n2+1) (Hf (KZ (gY h.lay (l.take k) s.lf) y (sz,pp))):=by
     rw[<-Xk]
     exact hM7
    have hcl:(if(Hf (gY h.lay (l.take k) s.lf) y).isSome=true then n2 else n2+1)<=k+1:=by split<;>omega
    have A4:=Lib.hid ((A3.out.drew).ac4 (f:=KZ (gY h.lay (l.take k) s.lf) y (sz,pp)) hG4 (by
     have e:(({oJ s h.lay q l k with pf:=I9 (eX h.lay q (l.take k) s.pf) y q}:dS).o1.length)=n:=by
      have hqq:=HQQ.out
      subst hqq
      exact HN.out
     show _<=({oJ s h.lay q l k with pf:=I9 (eX h.lay q (l.take k) s.pf) y q}:dS).o1.length
     rw[e]
     omega) hM8 (λa' q' hq'=>by
      unfold KZ at hq'
      split at hq'
      ·cases hq'
       exact⟨f1,f2⟩
      ·have:=A3.out.lr a' q'
       refine this ?_
       show(if q=1 then gY h.lay (l.take k) s.lf else s.lf) a'=some q'
       rw[if_pos HQQ.out]
       exact hq'))
    have HM9:=Lib.hid (HM5.out.tr (Below.refl _ _).drew|>.kept hG4 (λe=>hbp (Option.some.inj e).symm))
    have agQ:=Lib.hid hM8
    have HKd:=Lib.hid (QN.out.trans ((K3.below (Below.refl _ _).drew).trans (K3.grown hG4 (.inr (.inr rfl)))))
    clear hM7 hG4 hM8 HM5 HM6 A3 hHeld
    go_wp2_with fail
    refine⟨⟨k+1,by omega,by go_num,?_,⟨m1,by omega,?_⟩,⟨(if(Hf (gY h.lay (l.take k) s.lf) y).isSome=true then n2 else n2+1),?_,?_⟩,HKd.out⟩,by simp[intOf];omega⟩
    ·show St _ _ _ _ _ _ _
     rw[ac6.out HQQ.out]
     exact A4.out
    ·show dh _ _ _ _ _ _
     rw[HTP.out]
     exact HM9.out
    ·rw[if_pos HQQ.out]
     omega
    ·show dh _ _ _ _ _ _
     rw[if_pos HQQ.out,HTL.out HQQ.out]
     exact agQ.out
   ·have hqb:((q:Int)==1)=false:=beq_eq_false_iff_ne.mpr (by omega)
    go_wp2_with (at_mapUpdate;refine Dk (n:=n1) (b:=p.bp) (k:=24) (f:=FM (eX h.lay q (l.take k) s.pf)) _ rfl _ _ _ _ rfl 3 Tryz.underlying24 Tryz.underlying119 rfl HM3.out (by unfold maxLen;omega) y rfl hky (.int .i64 q) rfl ?_;intro w3 Y0 hG3)
    rw[Ou]at Y0
    obtain⟨hc1,hc2⟩:=HCN.out (FM (eX h.lay q (l.take k) s.pf) y).isSome
    refine⟨⟨k+1,by omega,by go_num,?_,⟨_,hc1,?_⟩,⟨n2,?_,?_⟩,HKb.out.trans (K3.grown hG3 (.inr (.inl rfl)))⟩,by simp[intOf];omega⟩
    ·show St _ _ _ _ _ _ _
     rw[HMS.out hqq]
     exact HS2.out.YZ hG3 (by have:=HTT.out;omega) Y0 HRP.out
    ·show dh _ _ _ _ _ _
     rw[HTP.out]
     exact Y0
    ·rw[if_neg hqq]at hn2⊢
     omega
    ·show dh _ _ _ _ _ _
     have:=HM4.out
     rw[if_neg hqq]at this⊢
     exact this.kept hG3 (λe=>hbp (Option.some.inj e))
  ·obtain rfl:k=n:=by omega
   have HE:Hid (oJ s h.lay q l k=s.note h.lay q l):=by
    show _=_
    rw[<-HN.out]
    exact OM s h.lay q l
   go_wp2_with fail
   go_end0
   refine⟨rfl,?_,hk3.out⟩
   rw[<-HE.out]
   exact hst.out
end Go.Proofs.YtpgjploaliefdaaGreat.ck
namespace Go.Proofs.YtpgjploaliefdaaGreat.ck
open Go Go.RowKit hp ob hd cp mp cm
set_option linter.unusedVariables false
set_option linter.unusedSimpArgs false
set_option maxRecDepth 100000
set_option maxHeartbeats 2000000
variable {w0 w W : World} {p : Pl} {h : Hp} {v : Hv} {s : dS} {ov : Ov}
theorem vY{W w1:World}{b:Nat}(hb:Below W.heap.size W w1)(hn:b<W.heap.size){o1 o2 o3 o4 o5 o6 o7 o8 o9 o10:Nat}{v1 v2 v3 v4 v5 v6 v7 v8 v9 v10:Value}(h:W.cell? ⟨b,o1,none⟩=some v1/\W.cell? ⟨b,o2,none⟩=some v2/\W.cell? ⟨b,o3,none⟩=some v3/\W.cell? ⟨b,o4,none⟩=some v4/\W.cell? ⟨b,o5,none⟩=some v5/\W.cell? ⟨b,o6,none⟩=some v6/\W.cell? ⟨b,o7,none⟩=some v7/\W.cell? ⟨b,o8,none⟩=some v8/\W.cell? ⟨b,o9,none⟩=some v9/\W.cell? ⟨b,o10,none⟩=some v10):
  w1.cell? ⟨b,o1,none⟩=some v1/\w1.cell? ⟨b,o2,none⟩=some v2/\w1.cell? ⟨b,o3,none⟩=some v3/\w1.cell? ⟨b,o4,none⟩=some v4/\w1.cell? ⟨b,o5,none⟩=some v5/\w1.cell? ⟨b,o6,none⟩=some v6/\w1.cell? ⟨b,o7,none⟩=some v7/\w1.cell? ⟨b,o8,none⟩=some v8/\w1.cell? ⟨b,o9,none⟩=some v9/\w1.cell? ⟨b,o10,none⟩=some v10:=by
 have hc:∀o,w1.cell? ⟨b,o,none⟩=W.cell? ⟨b,o,none⟩:=λo=>hb.cell (p:=⟨b,o,none⟩) hn
 rw[hc,hc,hc,hc,hc,hc,hc,hc,hc,hc]
 exact h
theorem JK(a:St w0 W p h v s ov):Calls Tryz.prog 94 #[.pointer (some ⟨p.b,0,none⟩)] W λe w'=>e=.returned (.bool (aZ h))/\Below W.heap.size W w':=by
 obtain⟨lb,cb,fb⟩:=a.blk.get
 obtain⟨la,lc,e1⟩:=ay a.hin.low
 obtain⟨ra,rc,e2⟩:=ay a.hin.roots
 have c5:W.cell? ⟨p.b,5,none⟩=some v.l:=cb 5
 have c9:W.cell? ⟨p.b,9,none⟩=some v.r:=cb 9
 rw[e1]at c5
 rw[e2]at c9
 have hcc:W.cell? ⟨p.b,10,none⟩=some (.int .u64 h.base)/\W.cell? ⟨p.b,11,none⟩=some (.int .i64 h.cap)/\W.cell? ⟨p.b,12,none⟩=some (.int .i64 h.tt)/\W.cell? ⟨p.b,13,none⟩=some (.int .i64 h.low.length)/\W.cell? ⟨p.b,14,none⟩=some (.int .i64 h.high.length)/\W.cell? ⟨p.b,15,none⟩=some (.int .i64 h.old.length)/\W.cell? ⟨p.b,16,none⟩=some (.int .i64 h.far.length)/\W.cell? ⟨p.b,9,none⟩=some (.slice ra h.roots.length rc)/\W.cell? ⟨p.b,4,none⟩=some (.int .i64 h.scan)/\W.cell? ⟨p.b,5,none⟩=some (.slice la h.low.length lc):=
  ⟨cb 10,cb 11,cb 12,cb 13,cb 14,cb 15,cb 16,c9,cb 4,c5⟩
 have HL:Hid (∀W,Calls Tryz.prog 106 #[eY h.lay] W λe w'=>e=.returned (.bool (fZ h.lay))/\Below W.heap.size W w'):=Lib.hid λW=>rV _ W a.hin.ok
 have HR:Hid (aZ h=(fZ h.lay&&decide (h.roots.length<=16/\0<=h.scan/\h.scan<=h.low.length))):=rfl
 generalize aZ h=R at*
 generalize fZ h.lay=L at*
 clear a cb fb c5 c9 e1 e2
 obtain⟨base,cap,tt,dJ,scan,low,high,old,far,roots⟩:=h
 unfold eY Hp.lay at*
 dsimp only at*
 generalize low.length=nl at*
 generalize high.length=nh at*
 generalize old.length=no at*
 generalize far.length=nf at*
 generalize roots.length=nr at*
 generalize p.b=b at*
 rcases L with _|_
 ·obtain rfl:R=false:=by rw[HR.out];rfl
  go_enter Tryz.func94,Tryz.ntmps94
  go_wp2_with fail
  refine wp_region_held_drew (S:=(λw'=>w'.cell? ⟨b,10,none⟩=some (.int .u64 base)/\w'.cell? ⟨b,11,none⟩=some (.int .i64 cap)/\w'.cell? ⟨b,12,none⟩=some (.int .i64 tt)/\w'.cell? ⟨b,13,none⟩=some (.int .i64 nl)/\w'.cell? ⟨b,14,none⟩=some (.int .i64 nh)/\w'.cell? ⟨b,15,none⟩=some (.int .i64 no)/\w'.cell? ⟨b,16,none⟩=some (.int .i64 nf)/\w'.cell? ⟨b,9,none⟩=some (.slice ra nr rc)/\w'.cell? ⟨b,4,none⟩=some (.int .i64 scan)/\w'.cell? ⟨b,5,none⟩=some (.slice la nl lc))) (by kernel_rfl) ?_ (λhHeld=> ?_)
  ·(try dsimp only);refine vY (W:=W) ?_ lb hcc;exact bm
  refine tk 0 ?_
  refine tk 1 ?_
  refine tk 2 ?_
  refine tk 3 ?_
  refine co 4 λK hK=> ?_
  go_simp
  go_at_call 106;refine(HL.out _).mono ?_;rintro e w2 ⟨rfl,k2⟩;go_wp2_with fail
  refine hK.out _ _ ?_ (λhHeld=> ?_)
  ·(try dsimp only);refine vY (W:=W) ?_ lb hcc;exact bm
  clear hK K
  refine nx ?_
  refine tk 5 ?_
  refine sk 6 ?_
  refine sk 7 ?_
  refine sk 8 ?_
  refine sk 9 ?_
  refine sk 10 ?_
  refine sk 11 ?_
  refine sk 12 ?_
  refine tk 13 ?_
  refine tk 14 ?_
  refine sk 15 ?_
  refine sk 16 ?_
  refine sk 17 ?_
  refine sk 18 ?_
  refine sk 19 ?_
  refine sk 20 ?_
  refine tk 21 ?_
  refine tk 22 ?_
  refine sk 23 ?_
  refine sk 24 ?_
  refine sk 25 ?_
  refine sk 26 ?_
  refine sk 27 ?_
  refine sk 28 ?_
  refine sk 29 ?_
  refine sk 30 ?_
  refine sk 31 ?_
  refine sk 32 ?_
  refine sk 33 ?_
  refine sk 34 ?_
  refine tk 35 ?_
  refine tk 36 ?_
  refine wpAnyH_done (by kernel_rfl) ?_ _
  go_wp2_with fail
  go_ret
  refine⟨rfl,?_⟩
  exact bm
 by_cases h1:¬nr<=16
 ·have d1:decide ((nr:Int)<=16)=false:=decide_eq_false (by omega)
  obtain rfl:R=false:=by rw[HR.out];simp;omega
  go_enter Tryz.func94,Tryz.ntmps94
  go_wp2_with fail
  refine wp_region_held_drew (S:=(λw'=>w'.cell? ⟨b,10,none⟩=some (.int .u64 base)/\w'.cell? ⟨b,11,none⟩=some (.int .i64 cap)/\w'.cell? ⟨b,12,none⟩=some (.int .i64 tt)/\w'.cell? ⟨b,13,none⟩=some (.int .i64 nl)/\w'.cell? ⟨b,14,none⟩=some (.int .i64 nh)/\w'.cell? ⟨b,15,none⟩=some (.int .i64 no)/\w'.cell? ⟨b,16,none⟩=some (.int .i64 nf)/\w'.cell? ⟨b,9,none⟩=some (.slice ra nr rc)/\w'.cell? ⟨b,4,none⟩=some (.int .i64 scan)/\w'.cell? ⟨b,5,none⟩=some (.slice la nl lc))) (by kernel_rfl) ?_ (λhHeld=> ?_)
  ·(try dsimp only);refine vY (W:=W) ?_ lb hcc;exact bm
  refine tk 0 ?_
  refine tk 1 ?_
  refine tk 2 ?_
  refine tk 3 ?_
  refine co 4 λK hK=> ?_
  go_simp
  go_at_call 106;refine(HL.out _).mono ?_;rintro e w2 ⟨rfl,k2⟩;go_wp2_with fail
  refine hK.out _ _ ?_ (λhHeld=> ?_)
  ·(try dsimp only);refine vY (W:=W) ?_ lb hcc;exact bm
  clear hK K
  refine nx ?_
  refine tk 5 ?_
  refine tk 6 ?_
  refine tk 7 ?_
  refine tk 8 ?_
  refine tk 9 ?_
  refine tk 10 ?_
  refine tk 11 ?_
  refine tk 12 ?_
  refine tk 13 ?_
  refine tk 14 ?_
  refine sk 15 ?_
  refine sk 16 ?_
  refine sk 17 ?_
  refine sk 18 ?_
  refine sk 19 ?_
  refine sk 20 ?_
  refine tk 21 ?_
  refine tk 22 ?_
  refine sk 23 ?_
  refine sk 24 ?_
  refine sk 25 ?_
  refine sk 26 ?_
  refine sk 27 ?_
  refine sk 28 ?_
  refine sk 29 ?_
  refine sk 30 ?_
  refine sk 31 ?_
  refine sk 32 ?_
  refine sk 33 ?_
  refine sk 34 ?_
  refine tk 35 ?_
  refine tk 36 ?_
  refine wpAnyH_done (by kernel_rfl) ?_ _
  go_wp2_with fail
  go_ret
  refine⟨rfl,?_⟩
  exact bm
 have d1:decide ((nr:Int)<=16)=true:=decide_eq_true (by omega)
 by_cases h2:¬0<=scan
 ·have d2:decide ((0:Int)<=scan)=false:=decide_eq_false (by omega)
  obtain rfl:R=false:=by rw[HR.out];simp;omega
  go_enter Tryz.func94,Tryz.ntmps94
  go_wp2_with fail
  refine wp_region_held_drew (S:=(λw'=>w'.cell? ⟨b,10,none⟩=some (.int .u64 base)/\w'.cell? ⟨b,11,none⟩=some (.int .i64 cap)/\w'.cell? ⟨b,12,none⟩=some (.int .i64 tt)/\w'.cell? ⟨b,13,none⟩=some (.int .i64 nl)/\w'.cell? ⟨b,14,none⟩=some (.int .i64 nh)/\w'.cell? ⟨b,15,none⟩=some (.int .i64 no)/\w'.cell? ⟨b,16,none⟩=some (.int .i64 nf)/\w'.cell? ⟨b,9,none⟩=some (.slice ra nr rc)/\w'.cell? ⟨b,4,none⟩=some (.int .i64 scan)/\w'.cell? ⟨b,5,none⟩=some (.slice la nl lc))) (by kernel_rfl) ?_ (λhHeld=> ?_)
  ·(try dsimp only);refine vY (W:=W) ?_ lb hcc;exact bm
  refine tk 0 ?_
  refine tk 1 ?_
  refine tk 2 ?_
  refine tk 3 ?_
  refine co 4 λK hK=> ?_
  go_simp
  go_at_call 106;refine(HL.out _).mono ?_;rintro e w2 ⟨rfl,k2⟩;go_wp2_with fail
  refine hK.out _ _ ?_ (λhHeld=> ?_)
  ·(try dsimp only);refine vY (W:=W) ?_ lb hcc;exact bm
  clear hK K
  refine nx ?_
  refine tk 5 ?_
  refine tk 6 ?_
  refine tk 7 ?_
  refine tk 8 ?_
  refine tk 9 ?_
  refine tk 10 ?_
  refine tk 11 ?_
  refine tk 12 ?_
  refine tk 13 ?_
  refine tk 14 ?_
  refine tk 15 ?_
  refine tk 16 ?_
  refine tk 17 ?_
  refine tk 18 ?_
  refine tk 19 ?_
  refine tk 20 ?_
  refine tk 21 ?_
  refine tk 22 ?_
  refine sk 23 ?_
  refine sk 24 ?_
  refine sk 25 ?_
  refine sk 26 ?_
  refine sk 27 ?_
  refine sk 28 ?_
  refine sk 29 ?_
  refine sk 30 ?_
  refine sk 31 ?_
  refine sk 32 ?_
  refine sk 33 ?_
  refine sk 34 ?_
  refine tk 35 ?_
  refine tk 36 ?_
  refine wpAnyH_done (by kernel_rfl) ?_ _
  go_wp2_with fail
  go_ret
  refine⟨rfl,?_⟩
  exact bm
 have d2:decide ((0:Int)<=scan)=true:=decide_eq_true (by omega)
 by_cases h3:¬scan<=nl
 ·have d3:decide (scan<=(nl:Int))=false:=decide_eq_false (by omega)
  obtain rfl:R=false:=by rw[HR.out];simp;omega
  go_enter Tryz.func94,Tryz.ntmps94
  go_wp2_with fail
  refine wp_region_held_drew (S:=(λw'=>w'.cell? ⟨b,10,none⟩=some (.int .u64 base)/\w'.cell? ⟨b,11,none⟩=some (.int .i64 cap)/\w'.cell? ⟨b,12,none⟩=some (.int .i64 tt)/\w'.cell? ⟨b,13,none⟩=some (.int .i64 nl)/\w'.cell? ⟨b,14,none⟩=some (.int .i64 nh)/\w'.cell? ⟨b,15,none⟩=some (.int .i64 no)/\w'.cell? ⟨b,16,none⟩=some (.int .i64 nf)/\w'.cell? ⟨b,9,none⟩=some (.slice ra nr rc)/\w'.cell? ⟨b,4,none⟩=some (.int .i64 scan)/\w'.cell? ⟨b,5,none⟩=some (.slice la nl lc))) (by kernel_rfl) ?_ (λhHeld=> ?_)
  ·(try dsimp only);refine vY (W:=W) ?_ lb hcc;exact bm
  refine tk 0 ?_
  refine tk 1 ?_
  refine tk 2 ?_
  refine tk 3 ?_
  refine co 4 λK hK=> ?_
  go_simp
  go_at_call 106;refine(HL.out _).mono ?_;rintro e w2 ⟨rfl,k2⟩;go_wp2_with fail
  refine hK.out _ _ ?_ (λhHeld=> ?_)
  ·(try dsimp only);refine vY (W:=W) ?_ lb hcc;exact bm
  clear hK K
  refine nx ?_
  refine tk 5 ?_
  refine tk 6 ?_
  refine tk 7 ?_
  refine tk 8 ?_
  refine tk 9 ?_
  refine tk 10 ?_
  refine tk 11 ?_
  refine tk 12 ?_
  refine tk 13 ?_
  refine tk 14 ?_
  refine tk 15 ?_
  refine tk 16 ?_
  refine tk 17 ?_
  refine tk 18 ?_
  refine tk 19 ?_
  refine tk 20 ?_
  refine tk 21 ?_
  refine tk 22 ?_
  refine tk 23 ?_
  refine tk 24 ?_
  refine tk 25 ?_
  refine tk 26 ?_
  refine tk 27 ?_
  refine tk 28 ?_
  refine tk 29 ?_
  refine tk 30 ?_
  refine tk 31 ?_
  refine tk 32 ?_
  refine tk 33 ?_
  refine tk 34 ?_
  refine tk 35 ?_
  refine tk 36 ?_
  refine wpAnyH_done (by kernel_rfl) ?_ _
  go_wp2_with fail
  go_ret
  refine⟨rfl,?_⟩
  exact bm
 have d3:decide (scan<=(nl:Int))=true:=decide_eq_true (by omega)
 obtain rfl:R=true:=by rw[HR.out];simp;omega
 go_enter Tryz.func94,Tryz.ntmps94
 go_wp2_with fail
 refine wp_region_held_drew (S:=(λw'=>w'.cell? ⟨b,10,none⟩=some (.int .u64 base)/\w'.cell? ⟨b,11,none⟩=some (.int .i64 cap)/\w'.cell? ⟨b,12,none⟩=some (.int .i64 tt)/\w'.cell? ⟨b,13,none⟩=some (.int .i64 nl)/\w'.cell? ⟨b,14,none⟩=some (.int .i64 nh)/\w'.cell? ⟨b,15,none⟩=some (.int .i64 no)/\w'.cell? ⟨b,16,none⟩=some (.int .i64 nf)/\w'.cell? ⟨b,9,none⟩=some (.slice ra nr rc)/\w'.cell? ⟨b,4,none⟩=some (.int .i64 scan)/\w'.cell? ⟨b,5,none⟩=some (.slice la nl lc))) (by kernel_rfl) ?_ (λhHeld=> ?_)
 ·(try dsimp only);refine vY (W:=W) ?_ lb hcc;exact bm
 refine tk 0 ?_
 refine tk 1 ?_
 refine tk 2 ?_
 refine tk 3 ?_
 refine co 4 λK hK=> ?_
 go_simp
 go_at_call 106;refine(HL.out _).mono ?_;rintro e w2 ⟨rfl,k2⟩;go_wp2_with fail
 refine hK.out _ _ ?_ (λhHeld=> ?_)
 ·(try dsimp only);refine vY (W:=W) ?_ lb hcc;exact bm
 clear hK K
 refine nx ?_
 refine tk 5 ?_
 refine tk 6 ?_
 refine tk 7 ?_
 refine tk 8 ?_
 refine tk 9 ?_
 refine tk 10 ?_
 refine tk 11 ?_
 refine tk 12 ?_
 refine tk 13 ?_
 refine tk 14 ?_
 refine tk 15 ?_
 refine tk 16 ?_
 refine tk 17 ?_
 refine tk 18 ?_
 refine tk 19 ?_
 refine tk 20 ?_
 refine tk 21 ?_
 refine tk 22 ?_
 refine tk 23 ?_
 refine tk 24 ?_
 refine tk 25 ?_
 refine tk 26 ?_
 refine tk 27 ?_
 refine tk 28 ?_
 refine tk 29 ?_
 refine tk 30 ?_
 refine tk 31 ?_
 refine tk 32 ?_
 refine tk 33 ?_
 refine tk 34 ?_
 refine tk 35 ?_
 refine tk 36 ?_
 refine wpAnyH_done (by kernel_rfl) ?_ _
 go_wp2_with fail
 go_ret
 refine⟨rfl,?_⟩
 exact bm
end Go.Proofs.YtpgjploaliefdaaGreat.ck
