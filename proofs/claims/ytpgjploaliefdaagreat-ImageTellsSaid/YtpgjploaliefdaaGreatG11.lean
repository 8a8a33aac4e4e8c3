/- check: the state's words, points. No conditions. -/
import Derived.Test.YtpgjploaliefdaaGreatG04
import Derived.Deep.DeepCutAuto
import Derived.Deep.CutRange
import Derived.Deep.RegionHeld3
import Derived.RegionTactic
import Derived.Deep.QuietTactic
import Derived.BigQuiet
import Derived.WalkSmall
namespace Go.Proofs.YtpgjploaliefdaaGreat.ck
open Go Go.RowKit hp ob hd cp mp cm
set_option linter.unusedVariables false
set_option linter.unusedSimpArgs false
variable {w0 w W : World} {p : Pl} {h : Hp} {v : Hv} {s : dS} {ov : Ov}
theorem ay{W:World}{v:Value}{zs:List Int}(h:aN W v zs):∃ad cap,v=.slice ad zs.length cap:=by
 obtain⟨ad,b,off,cap,rfl,_⟩:=h
 exact⟨_,_,rfl⟩
set_option maxRecDepth 100000
set_option maxHeartbeats 2000000
theorem xK(a:St w0 W p h v s ov)(q:Nat)(hq:1<=q/\q<=4):
  Calls Tryz.prog 108 #[.pointer (some ⟨p.b,0,none⟩),.int .i64 q] W λe w'=>e=.returned (v.part q)/\Below W.heap.size W w':=by
 obtain⟨la,lc,e1⟩:=ay a.hin.low
 obtain⟨ha,hc,e2⟩:=ay a.hin.high
 obtain⟨oa,oc,e3⟩:=ay a.hin.old
 obtain⟨fa,fc,e4⟩:=ay a.hin.far
 obtain⟨lb,cb,fb⟩:=a.blk.get
 have c5:W.cell? ⟨p.b,5,none⟩=some v.l:=cb 5
 have c6:W.cell? ⟨p.b,6,none⟩=some v.h:=cb 6
 have c7:W.cell? ⟨p.b,7,none⟩=some v.o:=cb 7
 have c8:W.cell? ⟨p.b,8,none⟩=some v.f:=cb 8
 have hp:v.part q=if q=1 then v.l else if q=2 then v.h else if q=3 then v.o else v.f:=rfl
 rw[hp]
 rw[e1]at c5
 rw[e2]at c6
 rw[e3]at c7
 rw[e4]at c8
 rw[e1,e2,e3,e4]
 clear e1 e2 e3 e4 cb fb hp a
 generalize h.low.length=nl at*
 generalize h.high.length=nh at*
 generalize h.old.length=no at*
 generalize h.far.length=nf at*
 generalize p.b=b at*
 obtain⟨q1,q2⟩:=hq
 rcases(show q=1\/q=2\/q=3\/q=4 by omega)with rfl|rfl|rfl|rfl
 ·have hwz:IntKind.i64.wrap 0=0:=by decide
  have hix:∀W,Sem.run Tryz.prog (Instr.index 190 (.agg #[.slice la nl lc,.slice ha nh hc,.slice oa no oc,.slice fa nf fc]) (.int .i64 0)) W=.ok (.slice la nl lc) W:=λW=>by kernel_rfl
  go_enter Tryz.func108,Tryz.ntmps108
  go_wp2_with fail
  go_quiet (fail)
  go_wp2_with fail
  go_ret
  refine⟨rfl,?_⟩
  exact bm
 ·have hwz:IntKind.i64.wrap 1=1:=by decide
  have hix:∀W,Sem.run Tryz.prog (Instr.index 190 (.agg #[.slice la nl lc,.slice ha nh hc,.slice oa no oc,.slice fa nf fc]) (.int .i64 1)) W=.ok (.slice ha nh hc) W:=λW=>by kernel_rfl
  go_enter Tryz.func108,Tryz.ntmps108
  go_wp2_with fail
  go_quiet (fail)
  go_wp2_with fail
  go_ret
  refine⟨rfl,?_⟩
  exact bm
 ·have hwz:IntKind.i64.wrap 2=2:=by decide
  have hix:∀W,Sem.run Tryz.prog (Instr.index 190 (.agg #[.slice la nl lc,.slice ha nh hc,.slice oa no oc,.slice fa nf fc]) (.int .i64 2)) W=.ok (.slice oa no oc) W:=λW=>by kernel_rfl
  go_enter Tryz.func108,Tryz.ntmps108
  go_wp2_with fail
  go_quiet (fail)
  go_wp2_with fail
  go_ret
  refine⟨rfl,?_⟩
  exact bm
 ·have hwz:IntKind.i64.wrap 3=3:=by decide
  have hix:∀W,Sem.run Tryz.prog (Instr.index 190 (.agg #[.slice la nl lc,.slice ha nh hc,.slice oa no oc,.slice fa nf fc]) (.int .i64 3)) W=.ok (.slice fa nf fc) W:=λW=>by kernel_rfl
  go_enter Tryz.func108,Tryz.ntmps108
  go_wp2_with fail
  go_quiet (fail)
  go_wp2_with fail
  go_ret
  refine⟨rfl,?_⟩
  exact bm
theorem UY{x:Int}(h:0<=x/\x<18446744073709551616):Sj (gB x):=by
 unfold Sj gB
 split<;>omega
theorem qx(a:St w0 W p h v s ov)(x lo hi:Int)(hx:0<=x/\x<18446744073709551616):
  Calls Tryz.prog 112 #[.pointer (some ⟨p.b,0,none⟩),.int .u64 x,.int .i64 lo,.int .i64 hi] W λe w'=>e=.returned (.bool (aP s.pf x lo hi))/\W=w':=by
 obtain⟨lb,cb,fb⟩:=a.blk.get
 have c5:W.cell? ⟨p.b,21,none⟩=some (.map (some p.bp)):=cb 21
 obtain⟨n,hn,hm⟩:=a.pm
 have hk:=UY hx
 have HP:Hid (aP s.pf x lo hi=(decide (x=0)||(decide (mD x=0)&&(match s.pf (gB x)with|none=>false|some q=>decide (lo<=q/\q<=hi))))):=rfl
 have HA:Hid (∀W,Calls Tryz.prog 52 #[.int .u64 x] W λe w'=>e=.returned (.tuple #[.int .u64 (gB x),.int .i64 (mD x)])/\W=w'):=Lib.hid λW=>lJ x W hx.1 hx.2
 have HM:Hid (dh Tryz.prog 24 W p.bp n (FM s.pf)):=Lib.hid hm
 clear a cb fb hm hn
 generalize p.b=b at*
 generalize p.bp=bp at*
 generalize s.pf=f at*
 have HF:Hid (f (gB x)=none/\FM f (gB x)=none\/∃q,f (gB x)=some q/\FM f (gB x)=some (.int .i64 q)):=by
  unfold FM
  rcases f (gB x)with _|q
  ·exact .inl ⟨rfl,rfl⟩
  ·exact .inr ⟨q,rfl,rfl⟩
 generalize gB x=y at*
 generalize hE:mD x=z at*
 generalize hR:aP f x lo hi=R at*
 clear hE hR
 by_cases h0:x=0
 ·subst h0
  obtain rfl:R=true:=by rw[HP.out];rfl
  go_enter Tryz.func112,Tryz.ntmps112
  go_wp2_with fail
  go_ret
  exact⟨rfl,rfl⟩
 have h0b:(x==0)=false:=beq_eq_false_iff_ne.mpr h0
 by_cases h1:z=0
 ·subst h1
  rcases HF.out with⟨g1,g2⟩|⟨q,g1,g2⟩
  ·obtain rfl:R=false:=by rw[HP.out,g1];simp[h0]
   have hz:(zeroValue 3).run Tryz.prog W=.ok (.int .i64 0) W:=by rw[Tryz.zeroValue3]
   go_enter Tryz.func112,Tryz.ntmps112
   go_wp2_with fail
   refine(HA.out _).mono ?_;rintro e ww ⟨rfl,rfl⟩
   go_wp2_with (at_lookup;refine tC (n:=n) (b:=bp) (k:=24) (f:=FM f) W rfl _ _ _ rfl 3 Tryz.underlying24 Tryz.underlying119 (.int .i64 0) hz rfl HM.out y rfl hk ?_;rw[g2])
   go_ret
   exact⟨rfl,rfl⟩
  ·have hz:(zeroValue 3).run Tryz.prog W=.ok (.int .i64 0) W:=by rw[Tryz.zeroValue3]
   go_enter Tryz.func112,Tryz.ntmps112
   go_wp2_with fail
   refine(HA.out _).mono ?_;rintro e ww ⟨rfl,rfl⟩
   go_wp2_with (at_lookup;refine tC (n:=n) (b:=bp) (k:=24) (f:=FM f) W rfl _ _ _ rfl 3 Tryz.underlying24 Tryz.underlying119 (.int .i64 0) hz rfl HM.out y rfl hk ?_;rw[g2])
   all_goals go_ret
   all_goals refine Lh (by rw[HP.out,g1,Bool.eq_iff_iff];simp[h0];try omega) rfl
 ·obtain rfl:R=false:=by rw[HP.out];simp[h0,h1]
  have h1b:(z==0)=false:=beq_eq_false_iff_ne.mpr h1
  go_enter Tryz.func112,Tryz.ntmps112
  go_wp2_with fail
  refine(HA.out _).mono ?_;rintro e ww ⟨rfl,rfl⟩
  go_wp2_with fail
  go_ret
  exact⟨rfl,rfl⟩
end Go.Proofs.YtpgjploaliefdaaGreat.ck
namespace Go.Proofs.YtpgjploaliefdaaGreat.ck
open Go Go.RowKit hp ob hd cp mp cm
set_option linter.unusedVariables false
set_option linter.unusedSimpArgs false
set_option maxRecDepth 100000
set_option maxHeartbeats 2000000
variable {w0 w W : World} {p : Pl} {h : Hp} {v : Hv} {s : dS} {ov : Ov}
theorem QG{P:Int->Int->Bool}{zs:List Int}{o:Ob}{n:Nat}(h:∀i,i<n->P (o.pos+1+i) (zs.getD (o.pos.toNat+1+i) 0)=true):qg P zs o n=true:=by
 unfold qg
 simp only[List.all_eq_true,List.mem_range]
 exact h
theorem QH{P:Int->Int->Bool}{zs:List Int}{o:Ob}{n i:Nat}(hi:i<n)(h:P (o.pos+1+i) (zs.getD (o.pos.toNat+1+i) 0)=false):qg P zs o n=false:=by
 rw[Bool.eq_false_iff]
 intro e
 unfold qg at e
 simp only[List.all_eq_true,List.mem_range]at e
 rw[e i hi]at h
 cases h
theorem En{P:Int->Int->Bool}{zs:List Int}{os:List Ob}{j:Nat}(h:j<os.length):aB P zs (os.drop j)=(((dL os j).g||qg P zs (dL os j) (dL os j).p.toNat)&&aB P zs (os.drop (j+1))):=by
 rw[tN h]
 rfl
theorem kQ{os:List Ob}{j:Nat}(h:j<os.length):dL os j∈os:=by
 have e:dL os j=os[j]:=by simp[dL,List.getD,h]
 rw[e]
 exact List.getElem_mem h
theorem zQ(h:Hp)(v:Hv)(ov:Ov)(bp bl q:Nat)(hq:1<=q/\q<=4):(zF h v ov bp bl)[17+(q-1)]? =some (ov.part q):=by
 rcases(show q=1\/q=2\/q=3\/q=4 by omega)with rfl|rfl|rfl|rfl<;>rfl
theorem jh(q:Nat)(hq:1<=q/\q<=4)(k bx:Nat)(P:Int->Int->Bool)(HK:∀(xs:Array Value)(W:World),(callFunc k xs).run Tryz.prog W=.ok (.enter k xs) W)(a:St w0 W p h v s ov)(hbx:W.cell? ⟨bx,0,none⟩=some (.pointer (some ⟨p.b,0,none⟩)))
  (HF:∀W' at_ x,St w0 W' p h v s ov->W'.cell? ⟨bx,0,none⟩=some (.pointer (some ⟨p.b,0,none⟩))->(0<=x/\x<18446744073709551616)->Calls Tryz.prog k #[.int .i64 at_,.int .u64 x,.pointer (some ⟨bx,0,none⟩)] W' λe w'=>e=.returned (.bool (P at_ x))/\Below W'.heap.size W' w'):
  Calls Tryz.prog 113 #[.pointer (some ⟨p.b,0,none⟩),.int .i64 q,.func (.func k) #[] #[.pointer (some ⟨bx,0,none⟩)]] W λe w'=>e=.returned (.bool (aB P (h.part q) (s.obs q)))/\Below W.heap.size W w':=by
 obtain⟨lb,cb,fb⟩:=a.blk.get
 have hwz:W.heap.size≠0:=by omega
 obtain⟨hob,hfit,hlen⟩:=a.obs q
 obtain⟨hnum,hsm⟩:=a.now.part q
 have hzl:=dN hnum
 have hos:=nV hob (by omega) (by omega)
 have HW:Hid (∀W,St w0 W p h v s ov->Calls Tryz.prog 108 #[.pointer (some ⟨p.b,0,none⟩),.int .i64 q] W λe w'=>e=.returned (v.part q)/\Below W.heap.size W w'):=Lib.hid λW a=>xK a q hq
 have hcq:W.cell? ⟨p.b,17+(q-1),none⟩=some (ov.part q):=(cb _).trans (zQ _ _ _ _ _ _ hq)
 have A:=Lib.hid a
 have HFF:=Lib.hid HF
 have HX:=Lib.hid hbx
 obtain⟨va,wb,woff,vc,ev,⟨g1,g2⟩,g3,⟨g4,g4'⟩,g5,g6⟩:=hnum
 obtain⟨oa,ob,off,oc,eo,⟨o1,o2⟩,o3,⟨o4,o4'⟩,o5,o6⟩:=hos
 rw[ev]at HW
 rw[eo]at hcq
 have HG6:=Lib.hid g6
 have XJ:=Lib.hid o6
 have Eo:=Lib.hid hfit
 have HSm:Hid (∀i,0<=(h.part q).getD i 0/\(h.part q).getD i 0<18446744073709551616):=hsm
 have HG1:=Lib.hid g1
 have EU:=Lib.hid o1
 clear a HF hbx hob hfit hsm cb fb g2 g6 o2 o6 ev eo g1 o1 g4' o4' hlen
 generalize hZ:h.part q=zs at*
 generalize s.obs q=os at*
 clear hZ
 generalize hn:os.length=n at*
 have HN:=Lib.hid hn
 generalize hvn:zs.length=vn at*
 have HVN:=Lib.hid hvn
 clear hn hvn
 obtain⟨hq1,hq2⟩:=hq
 go_enter Tryz.func113,Tryz.ntmps113
 go_wp2_with fail
 refine(HW.out _ A.out).mono ?_;rintro e w1 ⟨rfl,k1⟩
 have hcq1:=ah k1 hcq
 clear hcq HW
 go_wp2_with fail
 go_loopw [23] (λi wr=>∃j:Nat,j<=n/\i=.int .i64 j/\Hid (aB P zs os=aB P zs (os.drop j))/\Below W.heap.size W wr) (λi _=>n-(intOf i).toNat)
 case atStart=>exact⟨0,Nat.zero_le _,rfl,rfl,k1⟩
 case round=>
  obtain⟨j,hj,rfl,hres,hbr⟩:=hrel
  have yZ:=Lib.hid hbr
  have hws:=hbr.size
  clear hcq1 k1
  by_cases hlj:j<n
  ·obtain rfl:=EU.out (by omega)
   have hxk:=(XJ.out.block (hbr.block ob o5)).at j hlj
   have HS:=Lib.hid (hres.out.trans (En (by have:=HN.out;omega)))
   obtain⟨f0,f1,f2,f3,f4,f5⟩:=Eo.out _ (kQ (by have:=HN.out;omega:j<os.length))
   clear hbr hres
   generalize dL os j=o at*
   obtain⟨p0,sz,pp,g,t⟩:=o
   obtain⟨x0,x1,x2,x3,x4⟩:=hxk
   dsimp only at x0 x1 x2 x3 x4 f0 f1 f2 f3 f4 f5
   obtain⟨P0,rfl⟩:=Int.eq_ofNat_of_zero_le f0
   obtain⟨S,rfl⟩:=Int.eq_ofNat_of_zero_le f1
   obtain⟨PP,rfl⟩:=Int.eq_ofNat_of_zero_le f3
   rcases g with _|_
   ·have HS2:Hid (aB P zs os=(qg P zs ⟨P0,S,PP,false,t⟩ PP&&aB P zs (os.drop (j+1)))):=HS.out
    clear HS
    have HO:Hid (aj (wr.alloc (.cells #[.int .i64 P0,.int .i64 S,.int .i64 PP,.bool false,.int .u64 t] 58)) wr.heap.size #[.int .i64 P0,.int .i64 S,.int .i64 PP,.bool false,.int .u64 t] 58):=aj.new _ _ _
    have HB0:Hid (Below W.heap.size W (wr.alloc (.cells #[.int .i64 P0,.int .i64 S,.int .i64 PP,.bool false,.int .u64 t] 58))):=yZ.out.alloc hws _
    go_wp2_with fail
    clear x0 x1 x2 x3 x4 yZ hws
    generalize hoB:wr.heap.size=oB at*
    clear hoB
    go_loopw [32] (λi wr2=>∃i':Nat,i'<=PP/\i=.int .i64 i'/\Hid (∀m,m<i'->P ((P0:Int)+1+m) (zs.getD (P0+1+m) 0)=true)/\Hid (aj wr2 oB #[.int .i64 P0,.int .i64 S,.int .i64 PP,.bool false,.int .u64 t] 58)/\Hid (Below W.heap.size W wr2)) (λi _=>PP-(intOf i).toNat)
    case atStart=>exact⟨0,Nat.zero_le _,rfl,λm hm=>absurd hm (Nat.not_lt_zero _),HO.out,HB0.out⟩
    case round=>
     obtain⟨i,hi,rfl,hpre,hk2,hb2⟩:=hrel
     clear HO HB0
     obtain⟨lo,co,fo⟩:=hk2.out.get
     by_cases hiP:i<PP
     ·obtain rfl:=HG1.out (by omega)
      have hwi:=(HG6.out.block (hb2.out.block wb g5)).at (P0+1+i) (by omega)
      have aac:=Lib.hid (HSm.out (P0+1+i))
      have hcl:=Lib.hid (ah hb2.out HX.out)
      have HNo:Hid (P ((P0:Int)+1+i) (zs.getD (P0+1+i) 0)=false->aB P zs os=false):=λe=>by rw[HS2.out,QH (o:=⟨P0,S,PP,false,t⟩) hiP e];rfl
      have MI:Hid (P ((P0:Int)+1+i) (zs.getD (P0+1+i) 0)=true->∀m,m<i+1->P ((P0:Int)+1+m) (zs.getD (P0+1+m) 0)=true):=λe m hm=>by
       rcases Nat.lt_or_ge m i with h|h
       ·exact hpre.out m h
       ·obtain rfl:m=i:=by omega
        exact e
      clear hpre
      generalize zs.getD (P0+1+i) 0=x at*
      have hHF:=HFF.out wr ((P0:Int)+1+i) x (A.out.tr hb2.out) hcl.out aac.out
      have hHF:=Lib.hid hHF
      generalize hP:P ((P0:Int)+1+i) x=r at*
      clear hP
      rcases r with _|_
      ·have HR:=Lib.hid (HNo.out rfl)
       clear HNo MI
       go_wp2_with fail
       refine hHF.out.mono ?_;rintro e w3 ⟨rfl,k3⟩
       go_wp2_with fail
       go_ret
       refine⟨by rw[HR.out];rfl,?_⟩
       have:=hb2.out
       exact bm
      ·have HR:=Lib.hid (MI.out rfl)
       clear HNo MI
       go_wp2_with fail
       refine hHF.out.mono ?_;rintro e w3 ⟨rfl,k3⟩
       have hk3:=hk2.out.tr k3
       have hb3:Below W.heap.size W w3:=by have:=hb2.out;exact bm
       go_wp2_with fail
       exact⟨⟨i+1,by omega,by go_num,HR.out,hk3,hb3⟩,by simp[intOf];omega⟩
     ·have HR:Hid (aB P zs os=aB P zs (os.drop (j+1))):=HS2.out.trans (by rw[QG (o:=⟨P0,S,PP,false,t⟩) (λm hm=>hpre.out m (by omega))];rfl)
      go_wp2_with fail
      exact⟨⟨j+1,by omega,by go_num,HR.out,hb2.out⟩,by simp[intOf];omega⟩
   ·have HS2:Hid (aB P zs os=aB P zs (os.drop (j+1))):=HS.out.trans (by simp)
    go_wp2_with fail
    exact⟨⟨j+1,by omega,by go_num,HS2.out,by have:=yZ.out;exact bm⟩,by simp[intOf];omega⟩
  ·have HR:Hid (aB P zs os=true):=hres.out.trans (by rw[List.drop_eq_nil_of_le (by have:=HN.out;omega)];rfl)
   go_wp2_with fail
   go_ret
   refine⟨by rw[HR.out];rfl,?_⟩
   have:=yZ.out
   exact bm
end Go.Proofs.YtpgjploaliefdaaGreat.ck
namespace Go.Proofs.YtpgjploaliefdaaGreat.ck
open Go Go.RowKit hp ob hd cp mp cm
set_option linter.unusedVariables false
set_option linter.unusedSimpArgs false
set_option maxRecDepth 100000
set_option maxHeartbeats 2000000
variable {w0 w W : World} {p : Pl} {h : Hp} {v : Hv} {s : dS} {ov : Ov}
theorem agJ(bx:Nat)(W':World)(at_ x:Int)(a:St w0 W' p h v s ov)(hb:W'.cell? ⟨bx,0,none⟩=some (.pointer (some ⟨p.b,0,none⟩)))(hx:0<=x/\x<18446744073709551616):
  Calls Tryz.prog 114 #[.int .i64 at_,.int .u64 x,.pointer (some ⟨bx,0,none⟩)] W' λe w'=>e=.returned (.bool (aP s.pf x 1 2))/\Below W'.heap.size W' w':=by
 have HP:=Lib.hid (qx a x 1 2 hx)
 clear a hx
 generalize aP s.pf x 1 2=r at*
 go_enter Tryz.func114,Tryz.ntmps114
 go_wp2_with fail
 refine HP.out.mono ?_;rintro e w ⟨rfl,rfl⟩
 go_wp2_with fail
 go_ret
 refine⟨rfl,?_⟩
 exact bm
theorem ac0(bx:Nat)(W':World)(at_ x:Int)(a:St w0 W' p h v s ov)(hb:W'.cell? ⟨bx,0,none⟩=some (.pointer (some ⟨p.b,0,none⟩)))(hx:0<=x/\x<18446744073709551616):
  Calls Tryz.prog 117 #[.int .i64 at_,.int .u64 x,.pointer (some ⟨bx,0,none⟩)] W' λe w'=>e=.returned (.bool (aP s.pf x 3 4))/\Below W'.heap.size W' w':=by
 have HP:=Lib.hid (qx a x 3 4 hx)
 clear a hx
 generalize aP s.pf x 3 4=r at*
 go_enter Tryz.func117,Tryz.ntmps117
 go_wp2_with fail
 refine HP.out.mono ?_;rintro e w ⟨rfl,rfl⟩
 go_wp2_with fail
 go_ret
 refine⟨rfl,?_⟩
 exact bm
theorem agK(bx:Nat)(W':World)(at_ x:Int)(a:St w0 W' p h v s ov)(hb:W'.cell? ⟨bx,0,none⟩=some (.pointer (some ⟨p.b,0,none⟩)))(hx:0<=x/\x<18446744073709551616):
  Calls Tryz.prog 115 #[.int .i64 at_,.int .u64 x,.pointer (some ⟨bx,0,none⟩)] W' λe w'=>e=.returned (.bool (decide (h.scan<=at_)||aP s.pf x 1 2))/\Below W'.heap.size W' w':=by
 have HP:=Lib.hid (qx a x 1 2 hx)
 obtain⟨lb,cb,fb⟩:=a.blk.get
 have c4:W'.cell? ⟨p.b,4,none⟩=some (.int .i64 h.scan):=cb 4
 clear a hx cb fb
 generalize aP s.pf x 1 2=r at*
 generalize h.scan=sc at*
 by_cases hs:sc<=at_
 ·have e:(decide (sc<=at_)||r)=true:=by simp[hs]
  rw[e]
  go_enter Tryz.func115,Tryz.ntmps115
  go_wp2_with fail
  go_ret
  refine⟨rfl,?_⟩
  exact bm
 ·have e:(decide (sc<=at_)||r)=r:=by simp[hs]
  rw[e]
  go_enter Tryz.func115,Tryz.ntmps115
  go_wp2_with fail
  refine HP.out.mono ?_;rintro e w ⟨rfl,rfl⟩
  go_wp2_with fail
  go_ret
  refine⟨rfl,?_⟩
  exact bm
theorem agL(bx:Nat)(W':World)(at_ x:Int)(a:St w0 W' p h v s ov)(hb:W'.cell? ⟨bx,0,none⟩=some (.pointer (some ⟨p.b,0,none⟩)))(hx:0<=x/\x<18446744073709551616):
  Calls Tryz.prog 116 #[.int .i64 at_,.int .u64 x,.pointer (some ⟨bx,0,none⟩)] W' λe w'=>e=.returned (.bool (decide (at_<h.scan)||aP s.pf x 1 4))/\Below W'.heap.size W' w':=by
 have HP:=Lib.hid (qx a x 1 4 hx)
 obtain⟨lb,cb,fb⟩:=a.blk.get
 have c4:W'.cell? ⟨p.b,4,none⟩=some (.int .i64 h.scan):=cb 4
 clear a hx cb fb
 generalize aP s.pf x 1 4=r at*
 generalize h.scan=sc at*
 by_cases hs:at_<sc
 ·have e:(decide (at_<sc)||r)=true:=by simp[hs]
  rw[e]
  go_enter Tryz.func116,Tryz.ntmps116
  go_wp2_with fail
  go_ret
  refine⟨rfl,?_⟩
  exact bm
 ·have e:(decide (at_<sc)||r)=r:=by simp[hs]
  rw[e]
  go_enter Tryz.func116,Tryz.ntmps116
  go_wp2_with fail
  refine HP.out.mono ?_;rintro e w ⟨rfl,rfl⟩
  go_wp2_with fail
  go_ret
  refine⟨rfl,?_⟩
  exact bm
theorem EY(a:St w0 W p h v s ov):Calls Tryz.prog 99 #[.pointer (some ⟨p.b,0,none⟩)] W λe w'=>e=.returned (.bool (dO h s))/\Below W.heap.size W w':=by
 have HP:Hid (∀bx W,St w0 W p h v s ov->W.cell? ⟨bx,0,none⟩=some (.pointer (some ⟨p.b,0,none⟩))->Calls Tryz.prog 113 #[.pointer (some ⟨p.b,0,none⟩),.int .i64 1,.func (.func 116) #[] #[.pointer (some ⟨bx,0,none⟩)]] W λe w'=>e=.returned (.bool (dO h s))/\Below W.heap.size W w'):=
  Lib.hid λbx W a hb=>jh 1 ⟨by decide,by decide⟩ 116 bx _ Tryz.call116 a hb (agL bx)
 have A:=Lib.hid (a.alloc (.cells #[.pointer (some ⟨p.b,0,none⟩)] 102))
 generalize dO h s=r at*
 clear a
 go_enter Tryz.func99,Tryz.ntmps99
 go_wp2_with fail
 refine(HP.out _ _ A.out (by simp)).mono ?_;rintro e w ⟨rfl,k1⟩
 go_wp2_with fail
 go_ret
 refine⟨rfl,?_⟩
 exact bm
theorem UZ(a:St w0 W p h v s ov):Calls Tryz.prog 100 #[.pointer (some ⟨p.b,0,none⟩)] W λe w'=>e=.returned (.bool (leftB h s))/\Below W.heap.size W w':=by
 have HP:Hid (∀bx W,St w0 W p h v s ov->W.cell? ⟨bx,0,none⟩=some (.pointer (some ⟨p.b,0,none⟩))->Calls Tryz.prog 113 #[.pointer (some ⟨p.b,0,none⟩),.int .i64 3,.func (.func 117) #[] #[.pointer (some ⟨bx,0,none⟩)]] W λe w'=>e=.returned (.bool (aB (λ_ x=>aP s.pf x 3 4) h.old s.o3))/\Below W.heap.size W w'):=
  Lib.hid λbx W a hb=>jh 3 ⟨by decide,by decide⟩ 117 bx _ Tryz.call117 a hb (ac0 bx)
 have HQ:Hid (∀bx W,St w0 W p h v s ov->W.cell? ⟨bx,0,none⟩=some (.pointer (some ⟨p.b,0,none⟩))->Calls Tryz.prog 113 #[.pointer (some ⟨p.b,0,none⟩),.int .i64 4,.func (.func 117) #[] #[.pointer (some ⟨bx,0,none⟩)]] W λe w'=>e=.returned (.bool (aB (λ_ x=>aP s.pf x 3 4) h.far s.o4))/\Below W.heap.size W w'):=
  Lib.hid λbx W a hb=>jh 4 ⟨by decide,by decide⟩ 117 bx _ Tryz.call117 a hb (ac0 bx)
 have HR:Hid (leftB h s=(aB (λ_ x=>aP s.pf x 3 4) h.old s.o3&&aB (λ_ x=>aP s.pf x 3 4) h.far s.o4)):=rfl
 have A:=Lib.hid (a.alloc (.cells #[.pointer (some ⟨p.b,0,none⟩)] 102))
 have K0:=aj.new W #[.pointer (some ⟨p.b,0,none⟩)] 102
 generalize aB (λ_ x=>aP s.pf x 3 4) h.old s.o3=r1 at*
 generalize aB (λ_ x=>aP s.pf x 3 4) h.far s.o4=r2 at*
 rw[HR.out]
 clear a HR
 rcases r1 with _|_
 ·go_enter Tryz.func100,Tryz.ntmps100
  go_wp2_with fail
  refine(HP.out _ _ A.out (by simp)).mono ?_;rintro e w ⟨rfl,k1⟩
  go_wp2_with fail
  go_ret
  refine⟨rfl,?_⟩
  exact bm
 ·go_enter Tryz.func100,Tryz.ntmps100
  go_wp2_with fail
  refine(HP.out _ _ A.out (by simp)).mono ?_;rintro e w ⟨rfl,k1⟩
  have K1:=K0.tr k1
  obtain⟨l1,c1,f1⟩:=K1.get
  go_wp2_with fail
  refine(HQ.out _ _ (A.out.tr k1) (c1 0)).mono ?_;rintro e w2 ⟨rfl,k2⟩
  go_wp2_with fail
  go_ret
  refine⟨rfl,?_⟩
  exact bm
theorem JE(a:St w0 W p h v s ov):Calls Tryz.prog 98 #[.pointer (some ⟨p.b,0,none⟩)] W λe w'=>e=.returned (.bool (fM h s))/\Below W.heap.size W w':=by
 have HP:Hid (∀bx W,St w0 W p h v s ov->W.cell? ⟨bx,0,none⟩=some (.pointer (some ⟨p.b,0,none⟩))->Calls Tryz.prog 113 #[.pointer (some ⟨p.b,0,none⟩),.int .i64 2,.func (.func 114) #[] #[.pointer (some ⟨bx,0,none⟩)]] W λe w'=>e=.returned (.bool (aB (λ_ x=>aP s.pf x 1 2) h.high s.o2))/\Below W.heap.size W w'):=
  Lib.hid λbx W a hb=>jh 2 ⟨by decide,by decide⟩ 114 bx _ Tryz.call114 a hb (agJ bx)
 have HQ:Hid (∀bx W,St w0 W p h v s ov->W.cell? ⟨bx,0,none⟩=some (.pointer (some ⟨p.b,0,none⟩))->Calls Tryz.prog 113 #[.pointer (some ⟨p.b,0,none⟩),.int .i64 1,.func (.func 115) #[] #[.pointer (some ⟨bx,0,none⟩)]] W λe w'=>e=.returned (.bool (aB (λat_ x=>decide (h.scan<=at_)||aP s.pf x 1 2) h.low s.o1))/\Below W.heap.size W w'):=
  Lib.hid λbx W a hb=>jh 1 ⟨by decide,by decide⟩ 115 bx _ Tryz.call115 a hb (agK bx)
 have HR:Hid (fM h s=(h.roots.all (λx=>aP s.pf x 1 2)&&(aB (λ_ x=>aP s.pf x 1 2) h.high s.o2&&aB (λat_ x=>decide (h.scan<=at_)||aP s.pf x 1 2) h.low s.o1))):=rfl
 have HT:Hid (∀W x,St w0 W p h v s ov->(0<=x/\x<18446744073709551616)->Calls Tryz.prog 112 #[.pointer (some ⟨p.b,0,none⟩),.int .u64 x,.int .i64 1,.int .i64 2] W λe w'=>e=.returned (.bool (aP s.pf x 1 2))/\W=w'):=Lib.hid λW x a hx=>qx a x 1 2 hx
 obtain⟨lb,cb,fb⟩:=a.blk.get
 have c9:W.cell? ⟨p.b,9,none⟩=some v.r:=cb 9
 obtain⟨ra,rb,ro,rc,er,⟨r1,r2⟩,r3,⟨r4,r4'⟩,r5,r6⟩:=a.now.roots
 have HSm:Hid (∀i,0<=h.roots.getD i 0/\h.roots.getD i 0<18446744073709551616):=a.hin.jd
 rw[er]at c9
 have A:=Lib.hid a
 have K0:aj (W.alloc (.cells #[.pointer (some ⟨p.b,0,none⟩)] 102)) W.heap.size #[.pointer (some ⟨p.b,0,none⟩)] 102:=aj.new W _ _
 have HB0:Hid (Below W.heap.size W (W.alloc (.cells #[.pointer (some ⟨p.b,0,none⟩)] 102))):=Lib.hid (by exact bm)
 generalize aB (λ_ x=>aP s.pf x 1 2) h.high s.o2=q1 at*
 generalize aB (λat_ x=>decide (h.scan<=at_)||aP s.pf x 1 2) h.low s.o1=q2 at*
 have HR1:=Lib.hid r1
 have y7:=Lib.hid r6
 clear a r1 r2 r6 er cb fb r4'
 generalize h.roots=zs at*
 generalize hn:zs.length=n at*
 have HN:=Lib.hid hn
 clear hn
 generalize fM h s=R at*
 go_enter Tryz.func98,Tryz.ntmps98
 go_wp2_with fail
 go_loopw [11] (λi wr=>∃j:Nat,j<=n/\i=.int .i64 j/\Hid (∀m,m<j->aP s.pf (zs.getD m 0) 1 2=true)/\Hid (aj wr W.heap.size #[.pointer (some ⟨p.b,0,none⟩)] 102)/\Hid (Below W.heap.size W wr)) (λi _=>n-(intOf i).toNat)
 case atStart=>exact⟨0,Nat.zero_le _,rfl,λm hm=>absurd hm (Nat.not_lt_zero _),K0,HB0.out⟩
 case round=>
  obtain⟨j,hj,rfl,hpre,hk,hbr⟩:=hrel
  clear K0 HB0
  obtain⟨lo,co,fo⟩:=hk.out.get
  by_cases hlj:j<n
  ·obtain rfl:=HR1.out (by omega)
   have hwi:=(y7.out.block (hbr.out.block rb r5)).at j hlj
   have aac:=Lib.hid (HSm.out j)
   have HNo:Hid (aP s.pf (zs.getD j 0) 1 2=false->R=false):=λe=>by
    have hall:zs.all (λx=>aP s.pf x 1 2)=false:=by
     rw[Bool.eq_false_iff]
     intro e2
     have hjl:j<zs.length:=by have:=HN.out;omega
     have h3:=List.all_eq_true.1 e2 zs[j] (List.getElem_mem hjl)
     have h4:zs.getD j 0=zs[j]:=by simp[List.getD,hjl]
     rw[h4,h3]at e
     cases e
    rw[HR.out,hall];rfl
   have MI:Hid (aP s.pf (zs.getD j 0) 1 2=true->∀m,m<j+1->aP s.pf (zs.getD m 0) 1 2=true):=λe m hm=>by
    rcases Nat.lt_or_ge m j with h|h
    ·exact hpre.out m h
    ·obtain rfl:m=j:=by omega
     exact e
   clear hpre
   generalize zs.getD j 0=x at*
   have hHF:=Lib.hid (HT.out wr x (A.out.tr hbr.out) aac.out)
   generalize hP:aP s.pf x 1 2=r at*
   clear hP
   rcases r with _|_
   ·obtain rfl:=HNo.out rfl
    clear HNo MI
    go_wp2_with fail
    refine hHF.out.mono ?_;rintro e w3 ⟨rfl,rfl⟩
    go_wp2_with fail
    go_ret
    refine⟨rfl,?_⟩
    have:=hbr.out
    exact bm
   ·have HY:=Lib.hid (MI.out rfl)
    clear HNo MI
    go_wp2_with fail
    refine hHF.out.mono ?_;rintro e w3 ⟨rfl,rfl⟩
    go_wp2_with fail
    exact⟨⟨j+1,by omega,by go_num,HY.out,hk.out,hbr.out⟩,by simp[intOf];omega⟩
  ·have HR2:Hid (R=(q1&&q2)):=by
    have hall:zs.all (λx=>aP s.pf x 1 2)=true:=by
     rw[List.all_eq_true]
     intro x hx
     obtain⟨m,hm,rfl⟩:=List.mem_iff_getElem.1 hx
     have h3:=hpre.out m (by have:=HN.out;omega)
     have h4:zs.getD m 0=zs[m]:=by simp[List.getD,hm]
     rw[h4]at h3
     exact h3
    show _=_
    rw[HR.out,hall];rfl
   have HPw:=Lib.hid (HP.out W.heap.size wr (A.out.tr hbr.out) (co 0))
   clear HR hpre
   rcases q1 with _|_
   ·obtain rfl:R=false:=HR2.out
    go_wp2_with fail
    refine HPw.out.mono ?_;rintro e w3 ⟨rfl,k3⟩
    go_wp2_with fail
    go_ret
    refine⟨rfl,?_⟩
    have:=hbr.out
    exact bm
   ·obtain rfl:R=q2:=HR2.out
    go_wp2_with fail
    refine HPw.out.mono ?_;rintro e w3 ⟨rfl,k3⟩
    have hb3:=Lib.hid (au hbr.out k3)
    obtain⟨l3,c3,f3⟩:=(hk.out.tr k3).get
    go_wp2_with fail
    refine(HQ.out W.heap.size w3 (A.out.tr hb3.out) (c3 0)).mono ?_;rintro e w4 ⟨rfl,k4⟩
    go_wp2_with fail
    go_ret
    refine⟨rfl,?_⟩
    have:=hb3.out
    exact bm
end Go.Proofs.YtpgjploaliefdaaGreat.ck
namespace Go.Proofs.YtpgjploaliefdaaGreat.ck
open Go Go.RowKit hp ob hd cp mp cm
set_option linter.unusedVariables false
set_option linter.unusedSimpArgs false
set_option maxRecDepth 100000
set_option maxHeartbeats 2000000
variable {w0 w W : World} {p : Pl} {h : Hp} {v : Hv} {s : dS} {ov : Ov}
theorem JF(a:St w0 W p h v s ov):Calls Tryz.prog 95 #[.pointer (some ⟨p.b,0,none⟩)] W λe w'=>e=.returned (.bool (bW h))/\Below W.heap.size W w':=by
 obtain⟨lb,cb,fb⟩:=a.blk.get
 obtain⟨la,lc,e1⟩:=ay a.hin.low
 obtain⟨oa,oc,e2⟩:=ay a.hin.old
 obtain⟨fa,fc,e3⟩:=ay a.hin.far
 have c3:W.cell? ⟨p.b,3,none⟩=some (.bool h.dJ):=cb 3
 have c4:W.cell? ⟨p.b,4,none⟩=some (.int .i64 h.scan):=cb 4
 have c5:W.cell? ⟨p.b,5,none⟩=some v.l:=cb 5
 have c7:W.cell? ⟨p.b,7,none⟩=some v.o:=cb 7
 have c8:W.cell? ⟨p.b,8,none⟩=some v.f:=cb 8
 rw[e1]at c5
 rw[e2]at c7
 rw[e3]at c8
 have HR:Hid (bW h=if h.dJ then decide (h.scan<h.low.length)else decide (h.old.length=0/\h.far.length=0/\h.scan=h.low.length)):=rfl
 generalize bW h=R at*
 clear a cb fb e1 e2 e3
 obtain⟨base,cap,tt,dJ,scan,low,high,old,far,roots⟩:=h
 dsimp only at*
 generalize low.length=nl at*
 generalize high.length=nh at*
 generalize old.length=no at*
 generalize far.length=nf at*
 generalize p.b=b at*
 rcases dJ with _|_
 ·by_cases h1:¬no=0
  ·have d1:((no:Int)==0)=false:=beq_eq_false_iff_ne.mpr (by omega)
   obtain rfl:R=false:=by rw[HR.out];simp;omega
   go_enter Tryz.func95,Tryz.ntmps95
   go_wp2_with fail
   go_quiet (fail)
   go_wp2_with fail
   go_ret
   refine⟨rfl,?_⟩
   exact bm
  have d1:((no:Int)==0)=true:=beq_iff_eq.mpr (by omega)
  by_cases h2:¬nf=0
  ·have d2:((nf:Int)==0)=false:=beq_eq_false_iff_ne.mpr (by omega)
   obtain rfl:R=false:=by rw[HR.out];simp;omega
   go_enter Tryz.func95,Tryz.ntmps95
   go_wp2_with fail
   go_quiet (fail)
   go_wp2_with fail
   go_ret
   refine⟨rfl,?_⟩
   exact bm
  have d2:((nf:Int)==0)=true:=beq_iff_eq.mpr (by omega)
  by_cases h3:¬scan=nl
  ·have d3:(scan==(nl:Int))=false:=beq_eq_false_iff_ne.mpr h3
   obtain rfl:R=false:=by rw[HR.out];simp;omega
   go_enter Tryz.func95,Tryz.ntmps95
   go_wp2_with fail
   go_quiet (fail)
   go_wp2_with fail
   go_ret
   refine⟨rfl,?_⟩
   exact bm
  have d3:(scan==(nl:Int))=true:=beq_iff_eq.mpr (by omega)
  obtain rfl:R=true:=by rw[HR.out];simp;omega
  go_enter Tryz.func95,Tryz.ntmps95
  go_wp2_with fail
  go_quiet (fail)
  go_wp2_with fail
  go_ret
  refine⟨rfl,?_⟩
  exact bm
 ·obtain rfl:R=decide (scan<nl):=HR.out
  go_enter Tryz.func95,Tryz.ntmps95
  go_wp2_with fail
  go_quiet (fail)
  go_wp2_with fail
  go_ret
  refine⟨rfl,?_⟩
  exact bm
def iO(os:List Ob)(n:Int):Int:=os.foldl (λn o=>if o.g then n else n+(1+o.s)) n
def jY(s:dS)(q:Nat):List Ob:=if q=3 then s.o3++s.o4 else if q=4 then s.o4 else []
theorem Ep(s:dS){q:Nat}(hq:3<=q/\q<=4):jY s q=s.obs q++jY s (q+1):=by
 rcases(show q=3\/q=4 by omega)with rfl|rfl
 ·rfl
 ·show s.o4=s.o4++[]
  simp
theorem QI(a b:List Ob)(n:Int):iO (a++b) n=iO b (iO a n):=by unfold iO;rw[List.foldl_append]
theorem MJ{os:List Ob}{j:Nat}(h:j<os.length)(n:Int):iO (os.drop j) n=iO (os.drop (j+1)) (if(dL os j).g then n else n+(1+(dL os j).s)):=by
 rw[tN h]
 rfl
theorem vV(a:St w0 W p h v s ov):
  Calls Tryz.prog 118 #[.pointer (some ⟨p.b,0,none⟩)] W λe w'=>e=.returned (.int .i64 (bM (s.o3++s.o4)))/\Below W.heap.size W w':=by
 have HT:Hid (bM (s.o3++s.o4)=iO (jY s 3) 0):=rfl
 generalize bM (s.o3++s.o4)=T at*
 have A:=Lib.hid a
 clear a
 go_enter Tryz.func118,Tryz.ntmps118
 go_wp2_with fail
 go_loopw [4,3] (λi n wr=>∃(q:Nat)(m:Int),(3<=q/\q<=5)/\i=.int .i64 q/\n=.int .i64 m/\(0<=m/\m<=256000000000000*(q-3))/\Hid (T=iO (jY s q) m)/\Hid (Below W.heap.size W wr)) (λi _ _=>6-(intOf i).toNat)
 case atStart=>exact⟨3,0,by omega,rfl,rfl,by omega,HT.out,Below.refl _ _⟩
 case round=>
  obtain⟨q,m,⟨hq1,hq2⟩,rfl,rfl,⟨hm1,hm2⟩,hres,hbr⟩:=hrel
  clear HT
  by_cases hq5:q=5
  ·subst hq5
   obtain rfl:T=m:=hres.out
   go_wp2_with fail
   go_ret
   refine⟨rfl,?_⟩
   have:=hbr.out
   exact bm
  ·have A1:=Lib.hid (A.out.tr hbr.out)
   generalize hW1:wr=W1 at*
   clear hW1
   obtain⟨lb,cb,fb⟩:=A1.out.blk.get
   obtain⟨hob,hfit,hlen⟩:=A1.out.obs q
   have hzl:=dN (A1.out.now.part q).1
   have hos:=nV hob (by omega) (by omega)
   have hcq:W1.cell? ⟨p.b,17+(q-1),none⟩=some (ov.part q):=(cb _).trans (zQ _ _ _ _ _ _ ⟨by omega,by omega⟩)
   obtain⟨oa,ob,off,oc,eo,⟨o1,o2⟩,o3,⟨o4,o4'⟩,o5,o6⟩:=hos
   rw[eo]at hcq
   have HS:Hid (T=iO (jY s (q+1)) (iO (s.obs q) m)):=by
    show T=iO (jY s (q+1)) (iO (s.obs q) m)
    rw[<-QI,<-Ep s ⟨by omega,by omega⟩]
    exact hres.out
   have XJ:=Lib.hid o6
   have Eo:=Lib.hid hfit
   have EU:=Lib.hid o1
   clear hres hob hfit cb fb o2 o6 eo o1
   generalize s.obs q=os at*
   generalize hn:os.length=n at*
   have HN:=Lib.hid hn
   clear hn
   go_wp2_with fail
   go_loopw [19,3] (λi nv wr2=>∃(j:Nat)(mm:Int),j<=n/\i=.int .i64 j/\nv=.int .i64 mm/\(0<=mm/\mm<=256000000000000*(q-3)+256*j)/\Hid (T=iO (jY s (q+1)) (iO (os.drop j) mm))/\Hid (Below W1.heap.size W1 wr2)) (λi _ _=>n-(intOf i).toNat)
   case atStart=>exact⟨0,m,Nat.zero_le _,rfl,rfl,by omega,HS.out,Below.refl _ _⟩
   case round=>
    obtain⟨j,mm,hj,rfl,rfl,⟨amW,amX⟩,hr2,hb2⟩:=hrel
    have hws:=hb2.out.size
    by_cases hlj:j<n
    ·obtain rfl:=EU.out (by omega)
     have hxk:=(XJ.out.block (hb2.out.block ob o5)).at j hlj
     have HS2:Hid (T=iO (jY s (q+1)) (iO (os.drop (j+1)) (if(dL os j).g then mm else mm+(1+(dL os j).s)))):=by
      show _=_
      rw[<-MJ (by have:=HN.out;omega)]
      exact hr2.out
     obtain⟨f0,f1,f2,f3,f4,f5⟩:=Eo.out _ (kQ (by have:=HN.out;omega:j<os.length))
     clear hr2 HS
     generalize dL os j=o at*
     obtain⟨p0,sz,pp,g,t⟩:=o
     obtain⟨x0,x1,x2,x3,x4⟩:=hxk
     dsimp only at x0 x1 x2 x3 x4 f0 f1 f2 f3 f4 f5
     rcases g with _|_
     ·have CY:Hid (T=iO (jY s (q+1)) (iO (os.drop (j+1)) (mm+(1+sz)))):=HS2.out
      clear HS2
      go_wp2_with fail
      refine⟨⟨j+1,mm+(1+sz),by omega,by go_num,rfl,by omega,CY.out,?_⟩,by simp[intOf];omega⟩
      have:=hb2.out
      show Below _ _ _
      exact bm
     ·have CY:Hid (T=iO (jY s (q+1)) (iO (os.drop (j+1)) mm)):=HS2.out
      clear HS2
      go_wp2_with fail
      refine⟨⟨j+1,mm,by omega,by go_num,rfl,by omega,CY.out,?_⟩,by simp[intOf];omega⟩
      have:=hb2.out
      show Below _ _ _
      exact bm
    ·have HR:Hid (T=iO (jY s (q+1)) mm):=by
      show _=_
      rw[hr2.out,List.drop_eq_nil_of_le (by have:=HN.out;omega)]
      rfl
     go_wp2_with fail
     refine⟨⟨q+1,mm,by omega,by go_num,rfl,by omega,HR.out,?_⟩,by simp[intOf];omega⟩
     have h1:=hbr.out
     have h2:=hb2.out
     show Below _ _ _
     exact bm
theorem XK(os:List Ob)(n:Int)(hf:∀o∈os,0<=o.s/\o.s<=255):n<=iO os n/\iO os n<=n+256*os.length:=by
 induction os generalizing n with
 |nil=>exact⟨Int.le_refl _,by simp[iO]⟩
 |cons o os ih=>
  have h1:=hf o (by simp)
  have h2:=ih (if o.g then n else n+(1+o.s)) (λo' h'=>hf o' (List.mem_cons_of_mem _ h'))
  have h3:iO (o::os) n=iO os (if o.g then n else n+(1+o.s)):=rfl
  rw[h3]
  have h4:((o::os).length:Int)=os.length+1:=by simp
  have h5:n<=(if o.g then n else n+(1+o.s))/\(if o.g then n else n+(1+o.s))<=n+256:=by split<;>omega
  generalize(if o.g then n else n+(1+o.s))=z at*
  omega
theorem aaf{W w1:World}{b:Nat}(hb:Below W.heap.size W w1)(hn:b<W.heap.size){o1 o2 o3:Nat}{v1 v2 v3:Value}(h:W.cell? ⟨b,o1,none⟩=some v1/\W.cell? ⟨b,o2,none⟩=some v2/\W.cell? ⟨b,o3,none⟩=some v3):
  w1.cell? ⟨b,o1,none⟩=some v1/\w1.cell? ⟨b,o2,none⟩=some v2/\w1.cell? ⟨b,o3,none⟩=some v3:=by
 have hc:∀o,w1.cell? ⟨b,o,none⟩=W.cell? ⟨b,o,none⟩:=λo=>hb.cell (p:=⟨b,o,none⟩) hn
 rw[hc,hc,hc]
 exact h
theorem QJ(a:St w0 W p h v s ov):Calls Tryz.prog 101 #[.pointer (some ⟨p.b,0,none⟩)] W λe w'=>e=.returned (.bool (kS h s))/\Below W.heap.size W w':=by
 obtain⟨lb,cb,fb⟩:=a.blk.get
 obtain⟨la,lc,e1⟩:=ay a.hin.low
 obtain⟨ha,hc,e2⟩:=ay a.hin.high
 have z1:=dN a.hin.low
 have z2:=dN a.hin.high
 have z3:=dN a.hin.old
 have z4:=dN a.hin.far
 have c5:W.cell? ⟨p.b,5,none⟩=some v.l:=cb 5
 have c6:W.cell? ⟨p.b,6,none⟩=some v.h:=cb 6
 have c1:W.cell? ⟨p.b,1,none⟩=some (.int .i64 h.cap):=cb 1
 rw[e1]at c5
 rw[e2]at c6
 have HW:Hid (∀W,St w0 W p h v s ov->Calls Tryz.prog 118 #[.pointer (some ⟨p.b,0,none⟩)] W λe w'=>e=.returned (.int .i64 (bM (s.o3++s.o4)))/\Below W.heap.size W w'):=Lib.hid λW a=>vV a
 have hw:0<=bM (s.o3++s.o4)/\bM (s.o3++s.o4)<=256*(s.o3.length+s.o4.length):=by
  have:=XK (s.o3++s.o4) 0 (λo ho=>by
   rcases List.mem_append.1 ho with ho|ho
   ·exact⟨(a.f3.1 o ho).2.1,(a.f3.1 o ho).2.2.1⟩
   ·exact⟨(a.f4.1 o ho).2.1,(a.f4.1 o ho).2.2.1⟩)
  rw[List.length_append]at this
  have e:iO (s.o3++s.o4) 0=bM (s.o3++s.o4):=rfl
  rw[e]at this
  omega
 have hl3:=a.f3.2
 have hl4:=a.f4.2
 have HR:Hid (kS h s=decide ((h.low.length:Int)+h.high.length+bM (s.o3++s.o4)<=h.cap)):=rfl
 have A:=Lib.hid (a.tr (Below.refl _ _).drew)
 have hT:bM (s.o3++s.o4)<=1000000000000000:=by omega
 have hT0:=hw.1
 generalize bM (s.o3++s.o4)=T at*
 clear a cb fb e1 e2 z3 z4 hw hl3 hl4
 obtain⟨base,cap,tt,dJ,scan,low,high,old,far,roots⟩:=h
 dsimp only at*
 generalize low.length=nl at*
 generalize high.length=nh at*
 have jA:IntKind.i64.wrap ((nl:Int)+(nh:Int))=((nl+nh:Nat):Int):=by rw[IntWalk.i64_in _ (by omega)];omega
 have hS:∃S:Int,S=((nl+nh:Nat):Int)+T/\IntKind.i64.wrap (((nl+nh:Nat):Int)+T)=S:=⟨_,rfl,IntWalk.i64_in _ (by omega)⟩
 obtain⟨S,hS,jB⟩:=hS
 have HU:Hid (kS ⟨base,cap,tt,dJ,scan,low,high,old,far,roots⟩ s=decide (S<=cap)):=by
  show _=_
  rw[HR.out]
  exact decide_eq_decide.2 (by omega)
 generalize kS ⟨base,cap,tt,dJ,scan,low,high,old,far,roots⟩ s=R at*
 clear HR hS
 generalize nl+nh=U at*
 have tok1:True:=trivial
 go_enter Tryz.func101,Tryz.ntmps101
 go_wp2_with fail
 go_region_held3 (λw'=>w'.cell? ⟨p.b,5,none⟩=some (.slice la nl lc)/\w'.cell? ⟨p.b,6,none⟩=some (.slice ha nh hc)/\w'.cell? ⟨p.b,1,none⟩=some (.int .i64 cap))
  ((refine aaf (W:=W) ?_ lb ⟨c5,c6,c1⟩;exact bm))
  (first
   |(go_at_call 118;refine(HW.out _ A.out).mono ?_;rintro e w2 ⟨rfl,k2⟩))
 go_wp2_with fail
 go_ret
 refine⟨by rw[HU.out];rfl,?_⟩
 exact bm
end Go.Proofs.YtpgjploaliefdaaGreat.ck
namespace Go.Proofs.YtpgjploaliefdaaGreat.ck
open Go Go.RowKit hp ob hd cp mp cm
set_option linter.unusedVariables false
set_option linter.unusedSimpArgs false
set_option maxRecDepth 100000
set_option maxHeartbeats 2000000
variable {w0 w W : World} {p : Pl} {h : Hp} {v : Hv} {s : dS} {ov : Ov}
theorem JG{P:Program}{k:TypeId}{W:World}{b n:Nat}{f:Int->Option Value}(h:dh P k W b n f)(t e:TypeId)(hk:P.underlying k=some (.int .u64))(ht:P.underlying t=some (.map k e))(z:Value)(hz:∀W,(zeroValue e).run P W=.ok z W)(y:Int)(hy:Sj y)(m:Nat):
  (Instr.lookup t (.map (some b)) (.int .u64 y) false).run P (W.drewN m)=.ok ((f y).getD z) (W.drewN m):=by
 obtain⟨D,h1,h2,h3⟩:=h.tr (below_drewN (Below.refl _ _) m)
 obtain⟨v,ps,hrun,hv⟩:=h1.lookup (Maps.int_keyed hk) ht (hz _) (zd:=.held z) (zp:=[]) rfl (Maps.keyOf_int_mk hk (wf64 hy))
 rw[Tz hv ((h3 y hy).2 z)]at hrun
 exact hrun
theorem XL{P:Program}{k:TypeId}{W:World}{b n:Nat}{f:Int->Option Value}(h:dh P k W b n f)(t e:TypeId)(ht:P.underlying t=some (.map k e))(ty:TypeId)(m:Nat):
  (Builtin.len_ #[t] ty #[.map (some b)]).run P (W.drewN m)=.ok (.int .i64 n) (W.drewN m):=by
 obtain⟨D,h1,h2,h3⟩:=h.tr (below_drewN (Below.refl _ _) m)
 have:=h1.len ht ty
 rw[h2]at this
 exact this
def tV(t:Int->Bool):Int->Option Value:=λa=>if t a then some (.bool true)else none
theorem aag(t:Int->Bool)(a:Int):upd (tV t) a (.bool true)=tV (λx=>decide (x=a)||t x):=by
 funext x
 unfold upd tV
 by_cases h:x=a
 ·subst h;simp
 ·simp[h]
theorem JH{pf:Int->Option Int}{os rest:List Ob}{j:Nat}(h:j<os.length)(t:Int->Bool)(n:Nat):iL pf (os.drop j++rest) t n=
  if(dL os j).g then(if(pf (dL os j).t).getD 0=1/\t (dL os j).t=false then iL pf (os.drop (j+1)++rest) (λx=>decide (x=(dL os j).t)||t x) (n+1)else none)else iL pf (os.drop (j+1)++rest) t n:=by
 rw[tN h]
 rfl
def OL(os:List Ob):Prop:=∀o∈os,0<=o.t/\o.t<18446744073709551616
theorem MK(a:St w0 W p h v s ov)(ht3:OL s.o3)(ht4:OL s.o4):
  Calls Tryz.prog 97 #[.pointer (some ⟨p.b,0,none⟩)] W λe w'=>e=.returned (.bool (iH h s))/\Below W.heap.size W w':=by
 obtain⟨lb,cb,fb⟩:=a.blk.get
 have c3:W.cell? ⟨p.b,3,none⟩=some (.bool h.dJ):=cb 3
 have HR:Hid (iH h s=(!h.dJ||decide (iL s.pf (jY s 3) (λ_=>false) 0=some s.o1.length))):=rfl
 have A:=Lib.hid a
 have HTT:Hid (∀q:Nat,3<=q/\q<=4->OL (s.obs q)):=λq hq=>by
  rcases(show q=3\/q=4 by omega)with rfl|rfl
  ·exact ht3
  ·exact ht4
 have hzi:∀W,(zeroValue 3).run Tryz.prog W=.ok (.int .i64 0) W:=λW=>by rw[Tryz.zeroValue3]
 have hzb:∀W,(zeroValue 4).run Tryz.prog W=.ok (.bool false) W:=λW=>by rw[Tryz.zeroValue4]
 have HZI:=Lib.hid hzi
 have HZB:=Lib.hid hzb
 have hl1:s.o1.length<1000000000000:=Nat.lt_of_le_of_lt a.f1.2 (dN a.hin.low)
 clear a cb fb ht3 ht4 hzi hzb
 generalize iH h s=R at*
 generalize h.dJ=dJ at*
 rcases dJ with _|_
 ·obtain rfl:R=true:=HR.out
  go_enter Tryz.func97,Tryz.ntmps97
  go_wp2_with fail
  go_ret
  refine⟨rfl,?_⟩
  exact bm
 ·have HR2:Hid (R=decide (iL s.pf (jY s 3) (λ_=>false) 0=some s.o1.length)):=HR.out
  clear HR
  have HM0:Hid (dh Tryz.prog 24 (W.alloc (.map #[] 0)) W.heap.size 0 (tV λ_=>false)):=dh.made W
  have HB0:Hid (Below W.heap.size W (W.alloc (.map #[] 0))):=Lib.hid (by exact bm)
  have hmm:= @run_makeMap Tryz.prog
  go_enter Tryz.func97,Tryz.ntmps97
  go_wp2_with fail
  clear hmm
  go_loopw [4] (λi wr=>∃(q n:Nat)(t:Int->Bool),(3<=q/\q<=5)/\i=.int .i64 q/\(n<=1000000000000*(q-3))/\Hid (dh Tryz.prog 24 wr W.heap.size n (tV t))/\Hid (R=decide (iL s.pf (jY s q) t n=some s.o1.length))/\Hid (Below W.heap.size W wr)) (λi _=>6-(intOf i).toNat)
  case atStart=>exact⟨3,0,λ_=>false,by omega,rfl,by omega,HM0.out,HR2.out,HB0.out⟩
  case round=>
   obtain⟨q,n,t,⟨hq1,hq2⟩,rfl,hn,hm,hres,hbr⟩:=hrel
   clear HM0 HB0 HR2
   by_cases hq5:q=5
   ·subst hq5
    have HR3:Hid (R=decide (n=s.o1.length)):=by
     show _=_
     rw[hres.out]
     show decide (some n=some s.o1.length)=_
     exact decide_eq_decide.2 (by constructor<;>intro e<;>first|(cases e;rfl)|rw[e])
    obtain⟨lw,cw,fw⟩:=(A.out.tr hbr.out).blk.get
    obtain⟨oa,oc,eo⟩:=zy (A.out.tr hbr.out).o1
    have c17:wr.cell? ⟨p.b,17,none⟩=some ov.a:=cw 17
    rw[eo]at c17
    clear cw fw eo hn
    generalize s.o1.length=l1 at*
    have hlr:=XL hm.out 167 4 Tryz.underlying167 3
    by_cases hnl:n=l1
    ·have hb1:((n:Int)==(l1:Int))=true:=beq_iff_eq.mpr (by omega)
     obtain rfl:R=true:=by rw[HR3.out];exact decide_eq_true hnl
     go_wp2_with fail
     go_quiet (fail)
     go_wp2_with fail
     go_ret
     refine⟨rfl,?_⟩
     have:=hbr.out
     exact bm
    ·have hb1:((n:Int)==(l1:Int))=false:=beq_eq_false_iff_ne.mpr (by omega)
     obtain rfl:R=false:=by rw[HR3.out];exact decide_eq_false hnl
     go_wp2_with fail
     go_quiet (fail)
     go_wp2_with fail
     go_ret
     refine⟨rfl,?_⟩
     have:=hbr.out
     exact bm
   ·have HBr:=Lib.hid hbr.out
    have HMr:=Lib.hid hm.out
    obtain⟨lb1,cb,fb⟩:=A.out.blk.get
    obtain⟨hob,hfit,hlen⟩:=A.out.obs q
    have hzl:=dN (A.out.now.part q).1
    have hos:=nV hob (by omega) (by omega)
    have hcq0:W.cell? ⟨p.b,17+(q-1),none⟩=some (ov.part q):=(cb _).trans (zQ _ _ _ _ _ _ ⟨by omega,by omega⟩)
    have hcq:=ah hbr.out hcq0
    obtain⟨oa,ob,off,oc,eo,⟨o1,o2⟩,o3,⟨o4,o4'⟩,o5,o6⟩:=hos
    rw[eo]at hcq
    have HS:Hid (R=decide (iL s.pf (s.obs q++jY s (q+1)) t n=some s.o1.length)):=by
     show _=_
     rw[<-Ep s ⟨by omega,by omega⟩]
     exact hres.out
    have HTg:Hid (OL (s.obs q)):=HTT.out q ⟨by omega,by omega⟩
    have XJ:=Lib.hid o6
    have EU:=Lib.hid o1
    have hol:=Nat.lt_of_le_of_lt hlen hzl
    have hws:=hbr.out.size
    clear hres hob hfit cb fb o2 o6 eo o1 hlen hzl hcq0 hbr hm
    generalize hW1:wr=W1 at*
    clear hW1
    generalize s.obs q=os at*
    generalize hno:os.length=no at*
    have HN:=Lib.hid hno
    clear hno
    have lb2:p.b<W1.heap.size:=by omega
    go_wp2_with fail
    rw[show decide ((q:Int)<=4)=true from decide_eq_true (by omega)]
    clear hcq
    go_loopw [26] (λi wr2=>∃(j n:Nat)(t:Int->Bool),j<=no/\i=.int .i64 j/\(n<=1000000000000*(q-3)+j)/\Hid (dh Tryz.prog 24 wr2 W.heap.size n (tV t))/\Hid (R=decide (iL s.pf (os.drop j++jY s (q+1)) t n=some s.o1.length))/\Hid (Below W.heap.size W wr2)) (λi _=>no-(intOf i).toNat)
    case atStart=>exact⟨0,n,t,Nat.zero_le _,rfl,by omega,HMr.out,HS.out,HBr.out⟩
    case round=>
     obtain⟨j,n,t,hj,rfl,hn,hm,hres,hbr⟩:=hrel
     clear HBr HMr HS
     have hws2:=hbr.out.size
     by_cases hlj:j<no
     ·obtain rfl:=EU.out (by omega)
      have hxk:=(XJ.out.block (hbr.out.block ob o5)).at j hlj
      have HS2:=Lib.hid hres.out
      have HS2:Hid (R=decide ((if(dL os j).g then(if(s.pf (dL os j).t).getD 0=1/\t (dL os j).t=false then iL s.pf (os.drop (j+1)++jY s (q+1)) (λx=>decide (x=(dL os j).t)||t x) (n+1)else none)else iL s.pf (os.drop (j+1)++jY s (q+1)) t n)=some s.o1.length)):=by
       show _=_
       rw[<-JH (by have:=HN.out;omega)]
       exact hres.out
      obtain⟨ht1,ht2⟩:=HTg.out _ (kQ (by have:=HN.out;omega:j<os.length))
      clear hres
      generalize dL os j=o at*
      obtain⟨p0,sz,pp,g,tg⟩:=o
      obtain⟨x0,x1,x2,x3,x4⟩:=hxk
      dsimp only at x0 x1 x2 x3 x4 ht1 ht2
      rcases g with _|_
      ·have CY:Hid (R=decide (iL s.pf (os.drop (j+1)++jY s (q+1)) t n=some s.o1.length)):=HS2.out
       clear HS2
       have JI:=hm.out.tr ((Below.refl _ _).alloc (Nat.le_refl _) (.cells #[.int .i64 p0,.int .i64 sz,.int .i64 pp,.bool false,.int .u64 tg] 58))
       go_wp2_with fail
       refine⟨⟨j+1,n,t,by omega,by go_num,by omega,JI,CY.out,?_⟩,by simp[intOf];omega⟩
       have:=hbr.out
       show Below _ _ _
       exact bm
      ·have CY:Hid (R=decide ((if(s.pf tg).getD 0=1/\t tg=false then iL s.pf (os.drop (j+1)++jY s (q+1)) (λx=>decide (x=tg)||t x) (n+1)else none)=some s.o1.length)):=HS2.out
       clear HS2
       have JI:=hm.out.tr ((Below.refl _ _).alloc (Nat.le_refl _) (.cells #[.int .i64 p0,.int .i64 sz,.int .i64 pp,.bool true,.int .u64 tg] 58))
       have hk:Sj tg:=⟨ht1,ht2⟩
       obtain⟨np,hnp,hpm⟩:=(A.out.tr hbr.out).pm
       have ac1:=hpm.tr ((Below.refl _ _).alloc (Nat.le_refl _) (.cells #[.int .i64 p0,.int .i64 sz,.int .i64 pp,.bool true,.int .u64 tg] 58))
       have hl1:=JG ac1 119 3 Tryz.underlying24 Tryz.underlying119 (.int .i64 0) HZI.out tg hk
       have hl2:=JG JI 167 4 Tryz.underlying24 Tryz.underlying167 (.bool false) HZB.out tg hk
       rw[show(FM s.pf tg).getD (.int .i64 0)=.int .i64 ((s.pf tg).getD 0)from by unfold FM;rcases s.pf tg with _|_<;>rfl]at hl1
       rw[show(tV t tg).getD (.bool false)=.bool (t tg)from by unfold tV;rcases t tg with _|_<;>rfl]at hl2
       obtain⟨lw,cw,fw⟩:=(A.out.tr hbr.out).blk.get
       have c21:wr.cell? ⟨p.b,21,none⟩=some (.map (some p.bp)):=cw 21
       have hne:¬p.b=wr.heap.size:=by omega
       have HM3:=Lib.hid JI
       clear cw fw hpm ac1 hm JI hnp
       generalize hX:(s.pf tg).getD 0=X at*
       generalize hY:t tg=Y at*
       by_cases hX1:X=1
       ·have hXb:(X==1)=true:=beq_iff_eq.mpr hX1
        subst hX1
        rcases Y with _|_
        ·have HS4:Hid (R=decide (iL s.pf (os.drop (j+1)++jY s (q+1)) (λx=>decide (x=tg)||t x) (n+1)=some s.o1.length)):=by
          show _=_
          rw[CY.out]
          simp
         have HTn:Hid ((tV t tg).isSome=false):=by show _=_;unfold tV;rw[hY];rfl
         clear CY
         go_wp2_with fail
         go_quiet (fail)
         clear hl1 hl2
         go_wp2_with (at_mapUpdate;refine Dk (n:=n) (b:=W.heap.size) (k:=24) (f:=tV t) _ rfl _ _ _ _ rfl 4 Tryz.underlying24 Tryz.underlying167 rfl (HM3.out.tr (below_drewN (Below.refl _ _) _)) (by unfold maxLen;omega) tg rfl hk (.bool true) rfl ?_;intro w' hM' hG')
         rw[HTn.out,aag]at hM'
         have hB':Below W.heap.size W w':=Below.trans (by have:=hbr.out;exact bm) (zG hG' (by simp;omega) (Nat.le_refl _))
         go_wp2_with fail
         exact⟨⟨j+1,n+1,_,by omega,by go_num,by omega,hM',HS4.out,hB'⟩,by simp[intOf];omega⟩
        ·obtain rfl:R=false:=by rw[CY.out];simp
         clear CY
         go_wp2_with fail
         go_quiet (fail)
         go_wp2_with fail
         go_ret
         refine⟨rfl,?_⟩
         have:=hbr.out
         exact bm
       ·have hXb:(X==1)=false:=beq_eq_false_iff_ne.mpr hX1
        obtain rfl:R=false:=by rw[CY.out];simp[hX1]
        clear CY
        go_wp2_with fail
        go_quiet (fail)
        go_wp2_with fail
        go_ret
        refine⟨rfl,?_⟩
        have:=hbr.out
        exact bm
     ·have HR4:Hid (R=decide (iL s.pf (jY s (q+1)) t n=some s.o1.length)):=by
       show _=_
       rw[hres.out,List.drop_eq_nil_of_le (by have:=HN.out;omega)]
       rfl
      go_wp2_with fail
      exact⟨⟨q+1,n,t,by omega,by go_num,by omega,hm.out,HR4.out,hbr.out⟩,by simp[intOf];omega⟩
end Go.Proofs.YtpgjploaliefdaaGreat.ck
namespace Go.Proofs.YtpgjploaliefdaaGreat.ck
open Go Go.RowKit hp ob hd cp mp cm gr
set_option linter.unusedVariables false
set_option linter.unusedSimpArgs false
set_option maxRecDepth 100000
set_option maxHeartbeats 2000000
variable {w0 w W : World} {p : Pl} {h : Hp} {v : Hv} {s : dS} {ov : Ov}
def encS(x:Int×Int):List Value:=[.int .i64 x.1,.int .i64 x.2]
theorem uD:(Tryz.prog.info? 56).map (λi=>(i.zero,i.size,i.bytes))=some (some (.agg #[.int .i64 0,.int .i64 0]),2,16):=by kernel_rfl
theorem U0{x:Int×Int}:∀u∈encS x,u.oneCell'=true:=by intro u hu;simp[encS]at hu;rcases hu with rfl|rfl<;>rfl
abbrev ML(W:World)(B:Nat)(v:Value)(zs:List (Int×Int)):Prop:=ak 56 2 encS W B v zs
theorem QK{ops:Array Oper}{rest:List Oper}{o:Oper}{a:Act}{Q:Exit->Act->World->Prop}(w:World)(hw:Region.wanted o (yielded ops a.tmps)=true)(s x:Operand)
  (ho:o.op=.call {callee:=.builtin .append,args:= #[s,x],argTypes:= #[39,39]})
  (B:Nat) (v u:Value) (xs:List (Int×Int)) (y:Int×Int) (hs:a.eval s=v) (hx:a.eval x=u) (hown:ML w B v xs) (hys:fH 2 encS w u [y]) (hbig:xs.length+1<8000000000000) (hB:B<=w.heap.size)
  (h:∀v' w',ML w' B v' (xs++[y])->w.grownBy w' v.ownBlock->(v'.ownBlock=v.ownBlock\/v'.ownBlock=some w.heap.size)->wpList Tryz.prog ops Q rest (a.put o.dst v') w'):wpList Tryz.prog ops Q (o::rest) a w:=by
 obtain⟨i0,hi,hz0,hz1,hz2⟩:=info_parts uD
 unfold ML ak at hown
 refine IL w hw s x _ ho B 56 i0 _ 2 16 Tryz.underlying39 hi hz0 hz1 hz2 rfl (by decide) v xs.length (xs.flatMap encS) hs hown u 1 ([y].flatMap encS) hx (Tt hys (λ_=>rfl)) rfl (λu hu=> ?_) (by unfold maxLen;omega) (by omega) hB ?_
 ·obtain⟨x,_,hx2⟩:=List.mem_flatMap.1 hu
  exact U0 u hx2
 ·intro v' w' h2 h3 h4
  refine h v' w' ?_ h3 h4
  unfold ML ak
  rw[List.length_append,List.flatMap_append]
  exact h2
theorem yL{W:World}{B:Nat}{v:Value}{zs:List (Int×Int)}(h:ML W B v zs)(h0:0<W.heap.size)(hl:zs.length<1000000000000):dV W v zs:=by
 obtain⟨ad,cap,rfl,h1,h2,h3,h4⟩:=h.form (λ_=>rfl)
 rcases Nat.eq_zero_or_pos zs.length with e|e
 ·have hz:zs=[]:=List.eq_nil_of_length_eq_zero e
  subst hz
  exact⟨ad,0,0,cap,rfl,⟨λh=>by simp at h,h3⟩,h1,⟨h2,hl⟩,h0,cZ.none _ _ _ _⟩
 ·obtain⟨g,rfl,h5,h6,h7⟩:=h4 e
  refine⟨some ⟨g,0,none⟩,g,0,cap,rfl,⟨λ_=>rfl,λe=>by cases e⟩,h1,⟨h2,hl⟩,h6,?_⟩
  unfold cZ
  intro i hi
  have hx:zs[i]? =some zs[i]:=List.getElem?_eq_getElem hi
  have e1:zs.getD i (0,0)=zs[i]:=by simp[List.getD,hi]
  rw[e1]
  have k0:=h7 i 0 zs[i] (.int .i64 zs[i].1) hx rfl
  have k1:=h7 i 1 zs[i] (.int .i64 zs[i].2) hx rfl
  refine⟨?_,?_⟩
  ·rw[<-k0];congr 2;omega
  ·rw[<-k1];congr 2;omega
theorem H8{lf:Int->Option (Int×Int)}{zs:List Int}{f at_:Nat}{acc:List (Int×Int)}(h:at_<zs.length):dD lf zs (f+1) at_ acc=
   (if mD (zs.getD at_ 0)=0 then
    (match lf (gB (zs.getD at_ 0))with
    |none=>acc
    |some sp=>dD lf zs f (at_+1+sp.1.toNat) (acc++[sp]))
   else if rE (zs.getD at_ 0)=0 then dD lf zs f (at_+1+(rD (zs.getD at_ 0)).toNat) acc else acc):=by
 exact if_pos h
theorem JJ{lf:Int->Option (Int×Int)}{zs:List Int}{f at_:Nat}{acc:List (Int×Int)}(h:¬at_<zs.length):dD lf zs (f+1) at_ acc=acc:=by
 exact if_neg h
theorem aah{x:Int}(h:rE x=0):0<=rD x/\rD x<=255:=by
 have hu:jF x=true:=by
  rcases e:jF x with _|_
  ·simp[rE,e]at h
  ·rfl
 have h2:=hu
 simp only[jF,Bool.and_eq_true]at h2
 obtain⟨h3,h4,_⟩:=kJ h2.2
 simp only[rD,hu,if_true]
 exact⟨h3,h4⟩
theorem ni{A B:World}{n:Nat}{r:Option Nat}(hg:A.grownBy B r)(hn:n<=A.heap.size)(hr:∀k,r=some k->n<=k):Below n A B:=
 ⟨hg.os,hg.tape,hg.output,hg.size,λk hk=>hg.block k (by omega) (λe=>by have:=hr k e.symm;omega)⟩
theorem uy(a:St w0 W p h v s ov)(u:Value)(zs:List Int)(hu:aN W u zs)(hz:Small zs):
  Calls Tryz.prog 110 #[.pointer (some ⟨p.b,0,none⟩),u] W λe w'=>(∃x,e=.returned x/\dV w' x (dM s.lf zs))/\Below W.heap.size W w':=by
 obtain⟨ad,b,off,cap,rfl,⟨a1,a2⟩,a3,⟨a4,a4'⟩,a5,a6⟩:=hu
 have A:=Lib.hid a
 have HW:=Lib.hid a6
 have HA1:=Lib.hid a1
 have HZ:Hid (∀i,0<=zs.getD i 0/\zs.getD i 0<18446744073709551616):=hz
 have hr:=a.lr
 have HLR:=Lib.hid hr
 have HSz:Hid (∀W,(zeroValue 56).run Tryz.prog W=.ok (.agg #[.int .i64 0,.int .i64 0]) W):=Lib.hid λW=>by rw[Tryz.zeroValue56]
 have h0:0<W.heap.size:=by omega
 have HR:Hid (dM s.lf zs=dD s.lf zs (zs.length+1) 0 []):=rfl
 generalize dM s.lf zs=R at*
 clear a a1 a2 a6 hz hr
 generalize hn:zs.length=n at*
 have HN:=Lib.hid hn
 clear hn
 go_enter Tryz.func110,Tryz.ntmps110
 go_wp2_with fail
 go_loopw [6,5] (λi l wr=>∃(at_ f:Nat)(acc:List (Int×Int)),at_<=n+256/\i=.int .i64 at_/\n<at_+f/\acc.length<=at_/\acc.length<=n/\Hid (R=dD s.lf zs f at_ acc)/\Hid (ML wr W.heap.size l acc)/\Hid (Below W.heap.size W wr)) (λi _ _=>n-(intOf i).toNat)
 case atStart=>exact⟨0,n+1,[],by omega,rfl,by omega,by simp,by simp,by have:=HR.out;have h2:=HN.out;show _=_;rw[this],ak.nil _ _,Below.refl _ _⟩
 case round=>
  obtain⟨at_,f,acc,hat,rfl,hf,hal,han,hres,hown,hbr⟩:=hrel
  obtain⟨va,vc,e5,q1,q2,q3,q4⟩:=hown.out.form (λ_=>rfl)
  subst e5
  clear q1 q2 q3 q4
  have hws:=hbr.out.size
  by_cases hlt:at_<n
  ·obtain⟨f,rfl⟩:∃f',f=f'+1:=⟨f-1,by omega⟩
   obtain rfl:=HA1.out (by omega)
   have hx:=(HW.out.block (hbr.out.block b a5)).at at_ hlt
   have hzx:=HZ.out at_
   have HS:Hid (R=(if mD (zs.getD at_ 0)=0 then
    (match s.lf (gB (zs.getD at_ 0))with
    |none=>acc
    |some sp=>dD s.lf zs f (at_+1+sp.1.toNat) (acc++[sp]))
    else if rE (zs.getD at_ 0)=0 then dD s.lf zs f (at_+1+(rD (zs.getD at_ 0)).toNat) acc else acc)):=hres.out.trans (H8 (by have:=HN.out;omega))
   clear hres
   generalize zs.getD at_ 0=x at*
   obtain⟨hx1,hx2⟩:=hzx
   have hbw:b<wr.heap.size:=by omega
   have hk:=UY ⟨hx1,hx2⟩
   have HA:Hid (∀W,Calls Tryz.prog 52 #[.int .u64 x] W λe w'=>e=.returned (.tuple #[.int .u64 (gB x),.int .i64 (mD x)])/\W=w'):=Lib.hid λW=>lJ x W hx1 hx2
   have HU:Hid (∀W,Calls Tryz.prog 124 #[.int .u64 x] W λe w'=>e=.returned (.tuple #[.agg #[.int .i64 (rD x),.int .i64 (BL x)],.int .i64 (rE x)])/\Below W.heap.size W w'):=Lib.hid λW=>mM x W hx1 hx2
   have YN:Hid (rE x=0->0<=rD x/\rD x<=255):=aah
   generalize gB x=y at*
   generalize mD x=z at*
   generalize rD x=us at*
   generalize BL x=up at*
   generalize rE x=ue at*
   by_cases hz0:z=0
   ·subst hz0
    have HS2:Hid (R=match s.lf y with|none=>acc|some sp=>dD s.lf zs f (at_+1+sp.1.toNat) (acc++[sp])):=HS.out.trans (if_pos rfl)
    clear HS HU YN
    obtain⟨nl,hnl,hlm⟩:=(A.out.tr hbr.out).lm
    have ac3:=hlm.tr ((Below.refl _ _).alloc (Nat.le_refl _) (.cells #[.int .i64 0,.int .i64 0] 56))
    have HLM:=Lib.hid ac3
    obtain⟨lw,cw,fw⟩:=(A.out.tr hbr.out).blk.get
    have c22:wr.cell? ⟨p.b,22,none⟩=some (.map (some p.bl)):=cw 22
    have hne:¬p.b=wr.heap.size:=by omega
    clear hlm ac3 hnl cw fw
    have HF:Hid (s.lf y=none/\Hf s.lf y=none\/∃sp,s.lf y=some sp/\Hf s.lf y=some (.agg #[.int .i64 sp.1,.int .i64 sp.2])/\0<=sp.1/\sp.1<=255):=by
     have:=HLR.out y
     unfold Hf
     rcases hq:s.lf y with _|q
     ·exact .inl ⟨rfl,rfl⟩
     ·exact .inr ⟨q,rfl,rfl,this q hq⟩
    have hz:=HSz.out (wr.alloc (.cells #[.int .i64 0,.int .i64 0] 56))
    rcases HF.out with⟨g1,g2⟩|⟨⟨sz,pt⟩,g1,g2,g3,g4⟩
    ·obtain rfl:R=acc:=by rw[HS2.out,g1]
     go_wp2_with fail
     refine(HA.out _).mono ?_;rintro e ww ⟨rfl,rfl⟩
     go_wp2_with (at_lookup;refine tC (n:=nl) (b:=p.bl) (k:=24) (f:=Hf s.lf) _ rfl _ _ _ rfl 56 Tryz.underlying24 Tryz.underlying120 (.agg #[.int .i64 0,.int .i64 0]) hz rfl HLM.out y rfl hk ?_;rw[g2])
     go_ret
     refine⟨⟨_,rfl,yL (hown.out.tr ?_) ?_ ?_⟩,?_⟩
     ·exact bm
     ·simp
     ·omega
     ·have:=hbr.out
      exact bm
    ·have CY:Hid (R=dD s.lf zs f (at_+1+sz.toNat) (acc++[(sz,pt)])):=by show _=_;rw[HS2.out,g1]
     dsimp only at g2 g3 g4
     obtain⟨SZ,rfl⟩:=Int.eq_ofNat_of_zero_le g3
     have Om:Hid (∀g,(Value.slice va acc.length vc).ownBlock=some g->W.heap.size<=g):=hown.out.block
     have HOL:Hid (∀g,(Value.slice va acc.length vc).ownBlock=some g->g<wr.heap.size):=hown.out.lt
     have hml:acc.length<8000000000000:=by omega
     generalize hm:acc.length=m at*
     have HM:=Lib.hid hm
     clear hm
     go_wp2_with fail
     refine(HA.out _).mono ?_;rintro e ww ⟨rfl,rfl⟩
     go_wp2_with
      (first
       |(at_lookup;refine tC (n:=nl) (b:=p.bl) (k:=24) (f:=Hf s.lf) _ rfl _ _ _ rfl 56 Tryz.underlying24 Tryz.underlying120 (.agg #[.int .i64 0,.int .i64 0]) hz rfl HLM.out y rfl hk ?_;rw[g2])
       |(at_builtin;refine QK _ rfl _ _ rfl W.heap.size (.slice va m vc) (.slice (some ⟨wr.heap.size+1+1,0,none⟩) 1 1) acc ((SZ:Int),pt) rfl rfl (ak.tr hown.out ?c3) ?c4 ?c0 ?c1 ?c2))
     case c4=>exact jC (α:=Int×Int) (en:=encS) _ ((SZ:Int),pt) #[.int .i64 SZ,.int .i64 pt] rfl _ (by simp)
     case c3=>exact bm
     case c0=>have:=HM.out;omega
     case c1=>simp;omega
     case c2=>
     intro v4 w4 tY hg4 iG
     have hb4:Hid (Below W.heap.size W w4):=Below.trans (by have:=hbr.out;exact bm) (ni hg4 (by simp;omega) Om.out)
     have K7:aj w4 wr.heap.size #[.int .i64 SZ,.int .i64 pt] 56:=iV (((aj.new wr _ _).alloc _).alloc _) hg4 (λe=>by have:=HOL.out _ e;omega)
     have Xe:=Lib.hid tY
     have HL4:Hid ((acc++[((SZ:Int),pt)]).length=m+1):=by show _=_;rw[List.length_append,HM.out];rfl
     clear tY hg4 iG Om HOL
     obtain⟨l7,c7,f7⟩:=K7.get
     go_wp2_with fail
     exact⟨⟨at_+1+SZ,f,acc++[((SZ:Int),pt)],by omega,by congr 1;omega,by omega,by have:=HL4.out;omega,by have:=HL4.out;omega,CY.out,Xe.out,hb4.out⟩,by simp[intOf];omega⟩
   ·have hzb:(z==0)=false:=beq_eq_false_iff_ne.mpr hz0
    have HS2:Hid (R=if ue=0 then dD s.lf zs f (at_+1+us.toNat) acc else acc):=HS.out.trans (if_neg hz0)
    clear HS
    by_cases hu0:ue=0
    ·subst hu0
     obtain⟨u1,u2⟩:=YN.out rfl
     obtain⟨US,rfl⟩:=Int.eq_ofNat_of_zero_le u1
     have CY:Hid (R=dD s.lf zs f (at_+1+US) acc):=HS2.out.trans (if_pos rfl)
     clear HS2 YN
     have K0:aj (wr.alloc (.cells #[.int .i64 0,.int .i64 0] 56)) wr.heap.size #[.int .i64 0,.int .i64 0] 56:=aj.new _ _ _
     go_wp2_with fail
     refine(HA.out _).mono ?_;rintro e ww ⟨rfl,rfl⟩
     go_wp2_with fail
     refine(HU.out _).mono ?_;rintro e w3 ⟨rfl,k3⟩
     have K3:=K0.tr k3
     obtain⟨l3,c3,f3⟩:=K3.get
     have ho3:ML w3 W.heap.size (.slice va acc.length vc) acc:=hown.out.tr (by exact bm)
     have hb3:Hid (Below W.heap.size W w3):=Lib.hid (by have:=hbr.out;exact bm)
     go_wp2_with fail
     refine⟨⟨at_+1+US,f,acc,by omega,by congr 1;omega,by omega,by omega,by omega,CY.out,?_,?_⟩,by simp[intOf];omega⟩
     ·show ak _ _ _ _ _ _ _
      exact hown.out.tr (by exact bm)
     ·show Below _ _ _
      have:=hb3.out
      exact bm
    ·have hub:(ue==0)=false:=beq_eq_false_iff_ne.mpr hu0
     obtain rfl:R=acc:=HS2.out.trans (if_neg hu0)
     have K0:aj (wr.alloc (.cells #[.int .i64 0,.int .i64 0] 56)) wr.heap.size #[.int .i64 0,.int .i64 0] 56:=aj.new _ _ _
     go_wp2_with fail
     refine(HA.out _).mono ?_;rintro e ww ⟨rfl,rfl⟩
     go_wp2_with fail
     refine(HU.out _).mono ?_;rintro e w3 ⟨rfl,k3⟩
     have K3:=K0.tr k3
     obtain⟨l3,c3,f3⟩:=K3.get
     go_wp2_with fail
     go_ret
     refine⟨⟨_,rfl,yL (hown.out.tr ?_) ?_ ?_⟩,?_⟩
     ·exact bm
     ·have:=k3.size
      simp at this⊢
      omega
     ·omega
     ·have:=hbr.out
      exact bm
  ·have HS2:Hid (R=acc):=by
    rcases f with _|f
    ·exact hres.out
    ·exact hres.out.trans (JJ (by have:=HN.out;omega))
   obtain rfl:R=acc:=HS2.out
   go_wp2_with fail
   go_ret
   refine⟨⟨_,rfl,yL hown.out ?_ ?_⟩,?_⟩
   ·omega
   ·omega
   ·have:=hbr.out
    exact bm
end Go.Proofs.YtpgjploaliefdaaGreat.ck
namespace Go.Proofs.YtpgjploaliefdaaGreat.ck
open Go Go.RowKit hp ob hd cp mp cm gr
set_option linter.unusedVariables false
set_option linter.unusedSimpArgs false
set_option maxRecDepth 100000
set_option maxHeartbeats 2000000
variable {w0 w W : World} {p : Pl} {h : Hp} {v : Hv} {s : dS} {ov : Ov}
def totF(s:dS):Nat:=s.o1.length+s.o2.length+s.o3.length+s.o4.length
theorem uF{W w:World}{B:Nat}{v:Value}{l:List Ob}{r:Option Nat}(h:cu W B v l)(hg:W.grownBy w r)(hr:∀k,r=some k->k<B):cu w B v l:=by
 refine World.ownsRow.kept h hg ?_
 rcases hv:v.ownBlock with _|k
 ·exact .inl rfl
 ·refine .inr λe=> ?_
  have h1:B<=k:=by
   rcases h.2 with⟨rfl,_⟩|⟨g,cap,cur,rfl,h2,_⟩
   ·cases hv
   ·cases hv
    exact h2
  have:=hr k e.symm
  omega
theorem St.YZ{n:Nat}{f:Int->Option Int}(a:St w0 W p h v s ov)(hg:W.grownBy w (some p.bp))(hn:n<=totF s)(hm:dh Tryz.prog 24 w p.bp n (FM f))(hr:∀a q,f a=some q->1<=q/\q<=4):St w0 w p h v {s with pf:=f} ov:=by
 have hb:=a.ok.p1
 obtain⟨n2,h2,m2⟩:=a.lm
 exact⟨a.hin,a.bel.trans (zG hg a.bel.size a.ok.p0),a.ok,Nat.le_trans a.B hg.size,iV a.blk hg (λe=>a.ok.bp (Option.some.inj e).symm),
  uF a.o1 hg (λk e=>by cases e;exact hb),uF a.o2 hg (λk e=>by cases e;exact hb),uF a.o3 hg (λk e=>by cases e;exact hb),uF a.o4 hg (λk e=>by cases e;exact hb),
  ⟨n,hn,hm⟩,⟨n2,h2,m2.kept hg (λe=>a.ok.pl (Option.some.inj e).symm)⟩,a.f1,a.f2,a.f3,a.f4,hr,a.lr⟩
theorem St.ac4{n:Nat}{f:Int->Option (Int×Int)}(a:St w0 W p h v s ov)(hg:W.grownBy w (some p.bl))(hn:n<=s.o1.length)(hm:dh Tryz.prog 24 w p.bl n (Hf f))(hr:∀a q,f a=some q->0<=q.1/\q.1<=255):St w0 w p h v {s with lf:=f} ov:=by
 have hb:=a.ok.l1
 obtain⟨n2,h2,m2⟩:=a.pm
 exact⟨a.hin,a.bel.trans (zG hg a.bel.size a.ok.l0),a.ok,Nat.le_trans a.B hg.size,iV a.blk hg (λe=>a.ok.bl (Option.some.inj e).symm),
  uF a.o1 hg (λk e=>by cases e;exact hb),uF a.o2 hg (λk e=>by cases e;exact hb),uF a.o3 hg (λk e=>by cases e;exact hb),uF a.o4 hg (λk e=>by cases e;exact hb),
  ⟨n2,h2,m2.kept hg (λe=>a.ok.pl (Option.some.inj e))⟩,⟨n,hn,hm⟩,a.f1,a.f2,a.f3,a.f4,a.rg,hr⟩
def Ov.put(ov:Ov)(q:Nat)(u:Value):Ov:=⟨if q=1 then u else ov.a,if q=2 then u else ov.b,if q=3 then u else ov.c,if q=4 then u else ov.d⟩
def Bo(s:dS)(q:Nat)(l:List Ob):dS:={s with o1:=if q=1 then l else s.o1,o2:=if q=2 then l else s.o2,o3:=if q=3 then l else s.o3,o4:=if q=4 then l else s.o4}
theorem uG(W:World)(a:Addr)(v:Value):W.grownBy (W.setCell a v) (some a.block):=
 ⟨by simp[World.setCell],by simp[World.setCell],by simp[World.setCell],by simp,λk hk hne=>Below.heap_setCell W a v k (λe=>hne (by rw[e]))⟩
theorem aai(h:Hp)(v:Hv)(ov:Ov)(bp bl q:Nat)(u:Value)(hq:1<=q/\q<=4):(zF h v ov bp bl).setIfInBounds (17+(q-1)) u=zF h v (ov.put q u) bp bl:=by
 rcases(show q=1\/q=2\/q=3\/q=4 by omega)with rfl|rfl|rfl|rfl<;>rfl
theorem St.ac5(a:St w0 W p h v s ov){q:Nat}(hq:1<=q/\q<=4){u:Value}{l:List Ob}(hu:cu W p.B u l)(hf:(∀o∈l,lM (h.part q).length o)/\l.length<=(h.part q).length)(he:s.obs q=[]):
  St w0 (W.setCell ⟨p.b,17+(q-1),none⟩ u) p h v (Bo s q l) (ov.put q u):=by
 have hg:=uG W ⟨p.b,17+(q-1),none⟩ u
 have hb:=a.ok.b1
 obtain⟨n1,h1,m1⟩:=a.pm
 obtain⟨n2,h2,m2⟩:=a.lm
 have hk:∀{x:Value}{xs:List Ob},cu W p.B x xs->cu (W.setCell ⟨p.b,17+(q-1),none⟩ u) p.B x xs:=λhx=>uF hx hg (λk e=>by cases e;exact hb)
 refine⟨a.hin,a.bel.trans (zG hg a.bel.size a.ok.b0),a.ok,Nat.le_trans a.B hg.size,?_,?_,?_,?_,?_,⟨n1,?_,m1.kept hg (λe=>a.ok.bp (Option.some.inj e).symm)⟩,⟨n2,?_,m2.kept hg (λe=>a.ok.bl (Option.some.inj e).symm)⟩,?_,?_,?_,?_,a.rg,a.lr⟩
 ·have:=a.blk.set (17+(q-1)) u
  rw[aai h v ov p.bp p.bl q u hq]at this
  exact this
 all_goals rcases(show q=1\/q=2\/q=3\/q=4 by omega)with rfl|rfl|rfl|rfl
 all_goals first|exact hk hu|exact hk a.o1|exact hk a.o2|exact hk a.o3|exact hk a.o4|exact hf|exact a.f1|exact a.f2|exact a.f3|exact a.f4|skip
 all_goals first
  |(have he1:s.o1=[]:=he;simp[Bo,he1]at h1 h2⊢;omega)
  |(have he1:s.o2=[]:=he;simp[Bo,he1]at h1 h2⊢;omega)
  |(have he1:s.o3=[]:=he;simp[Bo,he1]at h1 h2⊢;omega)
  |(have he1:s.o4=[]:=he;simp[Bo,he1]at h1 h2⊢;omega)
theorem H9{a:Addr}{r:Nat}{x:Value}(hg:W.grownBy w (some r))(h:W.cell? a=some x)(hr:a.block≠r):w.cell? a=some x:=by
 have hlt:a.block<W.heap.size:=by
  rcases Nat.lt_or_ge a.block W.heap.size with h1|h1
  ·exact h1
  ·simp[World.cell?,Array.getElem?_eq_none h1]at h
 rw[<-h]
 simp only[World.cell?,hg.block a.block hlt (λe=>hr (Option.some.inj e))]
theorem MN{P:Program}{k:TypeId}{b n:Nat}{f:Int->Option Value}{ops:Array Oper}{o:Oper}{a:Act}{Q:Exit->Act->World->Prop}{w:World}{K:Act->World->Prop}{E:Prop}(hg:o.guard=none)(m x v:Operand)(t:TypeId)(hop:o.op=Op.mapUpdate t m x v)
  (e:TypeId) (hk:P.underlying k=some (.int .u64)) (ht:P.underlying t=some (.map k e))
  (hm:a.eval m=.map (some b)) (hown:dh P k w b n f) (hn:n<maxLen) (y:Int) (hx:a.eval x=.int .u64 y) (hy:Sj y) (u:Value) (hv:a.eval v=u)
  (hK:∀w',dh P k w' b (if(f y).isSome then n else n+1) (upd f y u)->w.grownBy w' (some b)->K (a.put o.dst undef) w'):
  if Region.wanted o (yielded ops a.tmps)=true then Oper.wp P o a w K Q else E:=by
 have hw:Region.wanted o (yielded ops a.tmps)=true:=by simp[Region.wanted,hg]
 rw[if_pos hw]
 obtain⟨D,h1,h2,h3⟩:=hown
 obtain⟨w',hrun,g1,g2⟩:=h1.update (Maps.int_keyed hk) ht hn (val:=u) (d:=.held u) (ps:=[]) (Maps.keyOf_int_mk hk (wf64 hy)) rfl
 unfold Oper.wp execOp
 simp only[hop,hm,hx,hv,Sem.run_bind,hrun,Result.andThen_ok,Sem.run_pure]
 refine hK w' ?_ g2
 have hks:WideAt.IsKeyLit (.int .u64 y):=trivial
 have hs:=Maps.size_put (k:=.int .u64 y) (h1.tidy (Maps.int_keyed hk)) (.held u)
 rw[(h3 y hy).1,h2]at hs
 refine⟨_,?_,hs,λc hc=> ?_⟩
 ·rw[<-hs]
  exact Oc g1
 ·unfold upd
  by_cases e2:c=y
  ·subst e2
   rw[if_pos rfl]
   exact⟨Maps.has_put_same h1.isMap hks (.held u),λz=>Maps.atKey_put_same h1.isMap hks (.held u) _⟩
  ·rw[if_neg e2]
   have e3:(Lit.int .u64 c)≠ .int .u64 y:=λe=>e2 (by cases e;rfl)
   rw[Maps.has_put_other e3,(h3 c hc).1]
   exact⟨rfl,λz=>by rw[Maps.atKey_put_other e3,(h3 c hc).2 z]⟩
end Go.Proofs.YtpgjploaliefdaaGreat.ck
