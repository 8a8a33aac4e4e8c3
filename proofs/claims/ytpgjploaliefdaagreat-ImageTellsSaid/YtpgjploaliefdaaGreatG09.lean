/- Words of raw objects: the walk. No conditions. -/
import Derived.Test.YtpgjploaliefdaaGreatSp
import Derived.Deep.DeepCutAuto
import Derived.Deep.CutRange
import Derived.Deep.RegionHeld3
import Derived.Test.YtpgjploaliefdaaGreatG03
import Derived.Test.YtpgjploaliefdaaGreatG02
namespace Go.Proofs.YtpgjploaliefdaaGreat.ob
open Go.RowKit hd
set_option linter.unusedVariables false
set_option linter.unusedSimpArgs false
theorem BR.tr{W w:World}{r:Rw}(h:BR W r)(hb:Below W.heap.size W w):BR w r:=⟨h.sl.tr hb,h.sz,h.pt⟩
theorem Bf.tr{W w:World}{v:Value}{l:List Rw}(h:Bf W v l)(hb:Below W.heap.size W w):Bf w v l:=by
 obtain⟨ad,b,off,cap,e,h1,h2,h3,h4⟩:=h
 refine⟨ad,b,off,cap,e,λh0=>⟨(h1 h0).1,Nat.lt_of_lt_of_le (h1 h0).2 hb.size⟩,h2,h3,λi hi=> ?_⟩
 obtain⟨c0,c1,c2,c3,hok⟩:=h4 i hi
 exact⟨ah hb c0,ah hb c1,ah hb c2,ah hb c3,hok.tr hb⟩
theorem XE{W:World}{r:Rw}(h:BR W r):r.sl.oneCell'=true/\∃a l c,r.sl=.slice a l c:=by
 obtain⟨_,_,_,e,_⟩:=h.sl
 exact⟨by rw[e];rfl,_,_,_,e⟩
def QD(B:Nat)(old:Bool)(L:List Rw)(n:Nat)(e:Ending)(W:World):Prop:=
 ∃(oZ:List Pc)(v u:Value),e=.returned (.tuple #[v,u])/\oZ.length=min n 8/\zN old L oZ/\aT W B v (wordsOf oZ)/\bH W B u (aJ oZ)
theorem OH{w W W':World}{r:Option Nat}(h:W.grownBy W' r)(k:Below W'.heap.size W' w):W.grownBy w r:=h.trans (below_grown k r)
theorem MG{W:World}{B:Nat}{v:Value}{zs:List Int}(h:aT W B v zs)(h0:0<zs.length):∃g l c,v=.slice (some ⟨g,0,none⟩) l c/\l=zs.length:=by
 obtain⟨g,c,e,_⟩:=h.block h0
 exact⟨g,_,c,e,rfl⟩
theorem Jw(n:Nat):Small (List.replicate n 0):=λi=>by
 simp only[List.getD,List.getElem?_replicate]
 split<;>simp
def Apart(v u:Value):Prop:=v.ownBlock=none\/v.ownBlock≠u.ownBlock
theorem Apart.sym{v u:Value}(h:Apart v u):Apart u v:=by
 unfold Apart at*
 rcases h with h|h
 ·rcases hu:u.ownBlock with _|k
  ·exact .inl rfl
  ·exact .inr (by rw[h];simp)
 ·exact .inr (λe=>h e.symm)
theorem Apart.left{v v' u:Value}{N:Nat}(h:Apart v u)(hat:v'.ownBlock=v.ownBlock\/v'.ownBlock=some N)(hu:∀k,u.ownBlock=some k->k<N):Apart v' u:=by
 unfold Apart at*
 rcases hat with e|e
 ·rw[e];exact h
 ·refine .inr (λe2=> ?_)
  rw[e]at e2
  have:=hu N e2.symm
  omega
theorem Hy{W:World}{B:Nat}{v:Value}{zs:List Int}(h:aT W B v zs){N:Nat}(hN:W.heap.size<=N):∀k,v.ownBlock=some k->k<N:=λk hk=>by have:=World.ownsRow.lt h k hk;omega
theorem CX{W:World}{B:Nat}{v:Value}{zs:List (Int×Int)}(h:bH W B v zs){N:Nat}(hN:W.heap.size<=N):∀k,v.ownBlock=some k->k<N:=λk hk=>by have:=World.ownsRow.lt h k hk;omega
theorem agt{v:Value}{N:Nat}(h:∀k,v.ownBlock=some k->k<N):v.ownBlock≠some N:=λe=>by have:=h N e;omega
theorem UJ{w W0 W W':World}{v:Value}{zs:List (Int×Int)}(hb:Below w.heap.size w W)(ho:bH W0 w.heap.size v zs)(hg:W.grownBy W' v.ownBlock):Below w.heap.size w W':=by
 have hol:=World.ownsRow.lt ho
 exact⟨hg.os.trans hb.os,hg.tape.trans hb.tape,hg.output.trans hb.output,Nat.le_trans hb.size hg.size,λj hj=>(hg.block j (Nat.lt_of_lt_of_le hj hb.size) (λe=>by have:=hol j e.symm;omega)).trans (hb.block j hj)⟩
theorem nP(W:World)(r:Option Nat):W.grownBy W r:=⟨rfl,rfl,rfl,Nat.le_refl _,λ_ _ _=>rfl⟩
theorem qX{W X:World}{r:Option Nat}(h:W.grownBy X r):W.grownBy X.drew r:=⟨h.os,h.tape,h.output,h.size,h.block⟩
theorem st1{W X Y:World}{v u v':Value}(gX:W.grownBy X v.ownBlock)(hg:X.grownBy Y v.ownBlock)(hat:v'.ownBlock=v.ownBlock\/v'.ownBlock=some X.heap.size)(ha:Apart v u)(hu:∀j,u.ownBlock=some j->j<W.heap.size):
  W.grownBy Y v.ownBlock/\Apart v' u/\(v'.ownBlock=v.ownBlock\/∃N,v'.ownBlock=some N/\W.heap.size<=N):=by
 refine⟨gX.trans hg,Apart.left ha hat (λj hj=>Nat.lt_of_lt_of_le (hu j hj) gX.size),?_⟩
 rcases hat with h|h
 ·exact .inl h
 ·exact .inr ⟨_,h,gX.size⟩
theorem st2{W X Y:World}{v u v1 v':Value}(gX:W.grownBy X v.ownBlock)(h1:v1.ownBlock=v.ownBlock\/∃N,v1.ownBlock=some N/\W.heap.size<=N)(hg:X.grownBy Y v1.ownBlock)(hat:v'.ownBlock=v1.ownBlock\/v'.ownBlock=some X.heap.size)(ha:Apart v1 u)(hu:∀j,u.ownBlock=some j->j<W.heap.size):
  W.grownBy Y v.ownBlock/\Apart v' u:=by
 refine⟨?_,Apart.left ha hat (λj hj=>Nat.lt_of_lt_of_le (hu j hj) gX.size)⟩
 rcases h1 with h|⟨N,h,hN⟩
 ·rw[h]at hg;exact gX.trans hg
 ·exact World.grownBy.over gX hg (λj hj=>by rw[h]at hj;cases hj;exact hN)
theorem YV{W w1:World}(hb:Below W.heap.size W w1){p q r s:Addr}{v u x y:Value}(h:W.cell? p=some v/\W.cell? q=some u/\W.cell? r=some x/\W.cell? s=some y):w1.cell? p=some v/\w1.cell? q=some u/\w1.cell? r=some x/\w1.cell? s=some y:=⟨ah hb h.1,ah hb h.2.1,ah hb h.2.2.1,ah hb h.2.2.2⟩
theorem Ee(sz pt:Int)(sl:Value)(g:Bool)(zs:List Int)(w:World)(hs:Dw w sl zs)(h1:Jv sz)(h2:Jv pt){S p:Nat}(e1:aC sz 7=(S:Int))(e2:aC pt ((S:Int)+1)=(p:Int))(hS:S<=6):
  Calls Tryz.prog 41 #[.agg #[.int .i64 sz,.int .i64 pt,sl,.bool g]] w λe w'=>(∃v ys,e=.returned v/\aT w' w.heap.size v ys/\G7 S p ys/\ys.length<1000000000000)/\Below w.heap.size w w':=by
 refine(PV sz pt sl g zs w hs h1 h2).mono ?_
 rintro e w' ⟨⟨v,ys,rfl,ho,hso⟩,hb⟩
 rw[e1,e2]at hso
 simp only[Int.toNat_natCast]at hso
 exact⟨⟨v,ys,rfl,ho,hso,by rw[hso.len];omega⟩,hb⟩
structure ae8(w W wx:World)(oZ:List Pc)(S p:Nat)(v u:Value):Prop where
 slots:∃ys,G7 S p ys/\aT wx w.heap.size v (wordsOf oZ++bV S p::ys)
 shapes:bH wx w.heap.size u (aJ oZ)
 apart:Apart v u
 below:Below w.heap.size w wx
set_option maxRecDepth 100000 in
set_option maxHeartbeats 16000000 in
theorem xK(v0:Value)(old:Bool)(L:List Rw)(w:World)(hL:Bf w v0 L):
  Calls Tryz.prog 12 #[v0,.bool old] w λe w'=>QD w.heap.size old L L.length e w'/\Below w.heap.size w w':=by
 obtain⟨ad,b,off,cap,rfl,h1,h2,h3,h4⟩:=hL
 have H1:=Lib.hid h1
 have H4:=Lib.hid h4
 clear h1 h4
 generalize hn:L.length=n at*
 have HN:=Lib.hid hn
 clear hn
 go_enter Tryz.func12,Tryz.ntmps12
 go_wp2_with fail
 go_loopw [8,6,7] (λi v u wr=>∃(k:Nat)(oZ:List Pc),k<=n/\k<=8/\i=.int .i64 (k:Int)/\Hid (oZ.length=k/\zN old L oZ)/\Hid (aT wr w.heap.size v (wordsOf oZ))/\Hid (bH wr w.heap.size u (aJ oZ))/\Hid (Apart v u)/\Hid (Below w.heap.size w wr)) (λi _ _ _=>8-(intOf i).toNat)
 case atStart=>exact⟨0,[],Nat.zero_le _,Nat.zero_le _,rfl,⟨rfl,λi hi=>by simp at hi⟩,aT.nil _ _,bH.nil _ _,.inl rfl,Below.refl _ _⟩
 case round=>
  obtain⟨k,oZ,hkn,hk8,rfl,hpc,hv,hu,hvu,hb⟩:=hrel
  by_cases hlt:k<n/\k<8
  ·obtain⟨l1,l2⟩:=hlt
   obtain⟨rfl,hbl⟩:=H1.out (by omega)
   obtain⟨x0,x1,x2,x3,hok⟩:=H4.out k l1
   have hok2:=hok.tr hb.out
   replace x0:=ah hb.out x0
   replace x1:=ah hb.out x1
   replace x2:=ah hb.out x2
   replace x3:=ah hb.out x3
   have HX:=Lib.hid (show _/\_/\_/\_ from⟨(H4.out k l1).1,(H4.out k l1).2.1,(H4.out k l1).2.2.1,(H4.out k l1).2.2.2.1⟩)
   have HOW:=Lib.hid hok
   obtain⟨hone,hsl⟩:=XE hok
   have Bj:=Lib.hid hok2
   have HRW:Hid (∀c,XC k old (Qy L k) c->zN old L (oZ++[c])):=λc hc=>UH hpc.out.1 hpc.out.2 hc
   clear hok hok2
   generalize Qy L k=r at*
   obtain⟨sz,pt,sl,g,zs⟩:=r
   dsimp only at x0 x1 x2 x3 hone hsl
   obtain⟨a0,l0,c0,rfl⟩:=hsl
   obtain⟨hS1,hS2⟩:=dw sz (n:=7) (by omega)
   obtain⟨hP1,hP2⟩:=dw pt (n:=aC sz 7+1) (by omega)
   have l1i:(k:Int)<(n:Int):=by omega
   have l2i:(k:Int)<8:=by omega
   cases hgo:(old&&g)with
   |true=>
    simp at hgo
    obtain⟨rfl,rfl⟩:=hgo
    go_wp2_with fail
    refine(xq sz pt _ true _ hone Bj.out.sz Bj.out.pt).mono ?_;rintro e w1 ⟨rfl,k1⟩
    generalize hSS:aC sz 7=sI at*
    generalize TS:aC pt (sI+1)=pI at*
    obtain⟨S,rfl⟩:=Int.eq_ofNat_of_zero_le hS1
    obtain⟨p,rfl⟩:=Int.eq_ofNat_of_zero_le hP1
    have KY:Hid (aC sz 7=(S:Int)/\aC pt ((S:Int)+1)=(p:Int)):=⟨hSS,TS⟩
    clear hSS TS
    have y3:=ah k1 x3
    have XF:b<w1.heap.size:=by have:=hb.out.size;have:=k1.size;omega
    have hne1:b≠w1.heap.size:=by omega
    go_upto_region 8 with(fail)
    have HB1:Hid (Below w.heap.size w w1):=au hb.out k1
    have HV1:=Lib.hid ((hv.out.tr k1).tr ((Below.refl _ _).alloc (Nat.le_refl _) (.cells #[.int .i64 S,.int .i64 p] 56)))
    have yx:=Lib.hid ((hu.out.tr k1).tr ((Below.refl _ _).alloc (Nat.le_refl _) (.cells #[.int .i64 S,.int .i64 p] 56)))
    have HB2:Hid (Below w.heap.size w (w1.alloc (.cells #[.int .i64 S,.int .i64 p] 56))):=HB1.out.alloc (HB1.out.size) _
    have Ks:=aj.new w1 #[.int .i64 S,.int .i64 p] 56
    have hVb:Hid (∀j,u6.ownBlock=some j->j<w1.heap.size):=Hy hv.out k1.size
    have hUb:Hid (∀j,u7.ownBlock=some j->j<w1.heap.size):=CX hu.out k1.size
    clear hv hu k1 HB1 hb
    generalize hW2:w1.alloc (.cells #[.int .i64 S,.int .i64 p] 56)=w2 at*
    clear hW2
    generalize hsB:w1.heap.size=sB at*
    clear hsB
    have hs2:=Ks.lt
    have ZU:=HB2.out.size
    have hwl:=xJ hpc.out.2
    have hsl2:=yJ oZ
    have hpl:=hpc.out.1
    have HWL:Hid ((wordsOf oZ).length<=56/\(aJ oZ).length<=8):=by show _/\_;omega
    clear hwl hsl2 hpl
    go_wp2_with (at_builtin;refine kZ _ rfl _ _ rfl w.heap.size u6 (.slice (some ⟨w2.heap.size,0,none⟩) 1 1) (wordsOf oZ) [2*(100+(k:Int))+1] rfl rfl (HV1.out.tr ((Below.refl _ _).alloc (Nat.le_refl _) _)) (nT _ _) ?c0 ?c1 ?c2)
    case c0=>have:=HWL.out;simp;omega
    case c1=>exact kM ZU
    case c2=>
    intro v3 w3 o3 hg3 UK
    have h3u:u6.ownBlock≠some sB:=λe=>by have:=hVb.out _ e;omega
    have Ks3:=iV (Ks.alloc (.cells #[.int .u64 (2*(100+(k:Int))+1)] 24)) hg3 h3u
    have uY:Hid (bH w3 w.heap.size u7 (aJ oZ)):=(yx.out.tr ((Below.refl _ _).alloc (Nat.le_refl _) (.cells #[.int .u64 (2*(100+(k:Int))+1)] 24))).row hg3 hvu.out.sym
    have HB3:Hid (Below w.heap.size w w3):=qW (HB2.out.alloc ZU _) HV1.out hg3
    have HA3:Hid (Apart v3 u7):=Apart.left hvu.out UK (λj hj=>by have:=hUb.out j hj;simp;omega)
    obtain⟨g3,l3,c3,rfl,hl3⟩:=MG o3 (by simp)
    have PZ:Hid (some g3≠some sB):=λe=>by
     cases e
     rcases UK with h|h
     ·exact h3u h.symm
     ·simp[Value.ownBlock]at h;omega
    have O3:=Lib.hid o3
    have HL3:=Lib.hid hl3
    have hs3:=HB3.out.size
    clear o3 hl3 UK hg3 h3u yx HV1 HB2 Ks ZU hs2
    obtain⟨lk,ck,fk⟩:=Ks3.get
    go_wp2_with (at_builtin;refine QA _ rfl _ _ rfl w.heap.size g3 l3 c3 S (wordsOf oZ++[2*(100+(k:Int))+1]) rfl rfl O3.out HL3.out ?c0 ?c1 ?c2)
    case c0=>have:=HWL.out;simp;omega
    case c1=>exact hs3
    case c2=>
    intro v4 w4 o4 hg4 iG
    have vw:Hid (bH w4 w.heap.size u7 (aJ oZ)):=uY.out.row hg4 HA3.out.sym
    have HB4:Hid (Below w.heap.size w w4):=qW HB3.out O3.out hg4
    have HA4:Hid (Apart v4 u7):=Apart.left HA3.out iG (CX uY.out (Nat.le_refl _))
    have Ks4:=iV Ks3 hg4 PZ.out
    have O4:=Lib.hid o4
    have hs4:=HB4.out.size
    clear o4 hg4 iG uY HB3 HA3 Ks3 lk ck fk hs3
    obtain⟨lk,ck,fk⟩:=Ks4.get
    go_wp2_with (at_builtin;refine MF _ rfl _ _ rfl w.heap.size u7 (.slice (some ⟨w4.heap.size,0,none⟩) 1 1) (aJ oZ) [((S:Int),(p:Int))] rfl rfl (vw.out.tr ((Below.refl _ _).alloc (Nat.le_refl _) _)) (LH _ _ _ _ (aj.new _ _ _)) ?c0 ?c1 ?c2)
    case c0=>have:=HWL.out;simp;omega
    case c1=>exact kM hs4
    case c2=>
    intro v5 w5 o5 hg5 XG
    have HV5:Hid (aT w5 w.heap.size v4 (wordsOf oZ++(2*(100+(k:Int))+1)::List.replicate S 0)):=by
     have h:=(O4.out.tr ((Below.refl _ _).alloc (Nat.le_refl _) (.cells #[.int .i64 S,.int .i64 p] 56))).row hg5 HA4.out
     show aT _ _ _ _
     simpa using h
    have SE:Hid (Below w.heap.size w w5):=UJ (HB4.out.alloc hs4 _) vw.out hg5
    have HA5:Hid (Apart v4 v5):=(Apart.left HA4.out.sym XG (Hy O4.out (by simp))).sym
    have O5:=Lib.hid o5
    clear o5 hg5 XG vw HB4 HA4 Ks4 lk ck fk O4
    go_wp2_with fail
    refine⟨⟨k+1,oZ++[⟨2*(100+(k:Int))+1,S,p,true,List.replicate S 0⟩],by omega,by omega,by go_num,⟨by have:=hpc.out.1;simp;omega,HRW.out _ ?_⟩,?_,?_,HA5.out,SE.out⟩,by simp[intOf];omega⟩
    ·exact⟨KY.out.1,KY.out.2,rfl,by simp,(show S<=6 by omega),(show p<=S by omega),Jw S,(λh=>by cases h),λ_=>⟨rfl,rfl⟩⟩
    ·rw[yI]
     exact HV5.out
    ·rw[EX _ rfl]
     exact O5.out
   |false=>
    cases old with
    |true=>
     simp at hgo
     subst hgo
     go_wp2_with fail
     refine(xq sz pt _ false _ hone Bj.out.sz Bj.out.pt).mono ?_;rintro e w1 ⟨rfl,k1⟩
     generalize hSS:aC sz 7=sI at*
     generalize TS:aC pt (sI+1)=pI at*
     obtain⟨S,rfl⟩:=Int.eq_ofNat_of_zero_le hS1
     obtain⟨p,rfl⟩:=Int.eq_ofNat_of_zero_le hP1
     have KY:Hid (aC sz 7=(S:Int)/\aC pt ((S:Int)+1)=(p:Int)):=⟨hSS,TS⟩
     clear hSS TS
     have y3:=ah k1 x3
     have XF:b<w1.heap.size:=by have:=hb.out.size;have:=k1.size;omega
     have hne1:b≠w1.heap.size:=by omega
     go_wp2_with fail
     refine(qN S p _).mono ?_;rintro e W ⟨rfl,k3⟩
     have hrb:bJ (S:Int) (p:Int)=true:=jS (by omega)
     rw[I7 hrb]
     have HB:Hid (Below w.heap.size w W):=by
      have:=hb.out
      show Below _ _ _
      exact bm
     have hkk:Below wr.heap.size wr W:=by exact bm
     have HV:=Lib.hid (hv.out.tr hkk)
     have HU:=Lib.hid (hu.out.tr hkk)
     have HA:=Lib.hid hvu.out
     have HU7:Hid (∀j,u7.ownBlock=some j->j<W.heap.size):=CX HU.out (Nat.le_refl _)
     have yK:Hid (∀j,u6.ownBlock=some j->j<W.heap.size):=Hy HV.out (Nat.le_refl _)
     have hWs:=HB.out.size
     have HZ:Hid (0<W.heap.size):=by show 0<_;omega
     have hwl:=xJ hpc.out.2
     have hsl2:=yJ oZ
     have hpl:=hpc.out.1
     have XH:Hid ((wordsOf oZ).length+[bV (S:Int) (p:Int)].length<1000000000000):=by show _<_;simp;omega
     have HL2:Hid (∀ys:List Int,ys.length=S->(wordsOf oZ++[bV (S:Int) (p:Int)]).length+ys.length<1000000000000):=λys h=>by simp;omega
     clear hwl hsl2 hpl k1 k3 hb hkk y3 hne1 XF hrb x0 x1 x2 x3 hv hu hvu
     go_upto_region 12 with(fail)
     go_region_held3 (λw'=>w'.cell? ⟨b,off+k*4,none⟩=some (.int .i64 sz)/\w'.cell? ⟨b,off+k*4+1,none⟩=some (.int .i64 pt)/\w'.cell? ⟨b,off+k*4+2,none⟩=some (.slice a0 l0 c0)/\w'.cell? ⟨b,off+k*4+3,none⟩=some (.bool false))
      (first|(refine YV (qW HB.out HV.out ?_) HX.out;(repeat(first|with_reducible exact nP _ _|with_reducible assumption|with_reducible refine mQ ?_ _|with_reducible refine qX ?_))))
      (first
       |(refine xI ?_ (.tmp 56) (.tmp 58) ?_ w.heap.size u6 (.slice (some ⟨W.heap.size,0,none⟩) 1 1) (wordsOf oZ) [bV (S:Int) (p:Int)] ?_ ?_ ?_ ?_ XH.out ?_ ?_;rfl;rfl;rfl;rfl;(refine HV.out.tr ?_;exact bm);(refine(nT W (bV (S:Int) (p:Int))).tr ?_;exact bm);(first|exact hWs|exact kM hWs);intro v59 w59 o59 UL Jy;obtain⟨g59,UM,UN⟩:=st1 (W:=W) (u:=u7) (by(repeat(first|with_reducible exact nP _ _|with_reducible assumption|with_reducible refine mQ ?_ _|with_reducible refine qX ?_))) UL Jy HA.out HU7.out)
       |(go_at_call 41;refine(Ee sz pt (.slice a0 l0 c0) false zs _ (HOW.out.sl.tr ?_) Bj.out.sz Bj.out.pt KY.out.1 KY.out.2 (by omega)).mono ?_;(refine qW HB.out HV.out ?_;(repeat(first|with_reducible exact nP _ _|with_reducible assumption|with_reducible refine mQ ?_ _|with_reducible refine qX ?_)));rintro e w64 ⟨⟨v64,ys,rfl,o64,hso,hsl⟩,k64⟩;have XI:W.grownBy w64 u6.ownBlock:=(by refine OH ?_ k64;(repeat(first|with_reducible exact nP _ _|with_reducible assumption|with_reducible refine mQ ?_ _|with_reducible refine qX ?_))))
       |(refine xI ?_ (.tmp 59) (.tmp 64) ?_ w.heap.size v59 v64 (wordsOf oZ++[bV (S:Int) (p:Int)]) ys ?_ ?_ ?_ ?_ (HL2.out ys hso.len) ?_ ?_;rfl;rfl;rfl;rfl;(refine o59.tr ?_;exact bm);(exact o64.sees (Nat.lt_of_lt_of_le HZ.out XI.size) hsl);(exact Nat.le_trans hWs XI.size);intro v65 ZX o65 UO Jz;obtain⟨ZY,UQ⟩:=st2 (W:=W) (u:=u7) XI UN UO Jz UM HU7.out))
     have Z4:Hid (bH ZX w.heap.size u7 (aJ oZ)):=HU.out.row ZY HA.out.sym
     have Z5:Hid (Below w.heap.size w ZX):=qW HB.out HV.out ZY
     have Z7:Hid (aT ZX w.heap.size v65 (wordsOf oZ++bV (S:Int) (p:Int)::ys)):=by
      show aT _ _ _ _
      simpa using o65
     have Z8:=Lib.hid UQ
     have Z9:=Lib.hid hso
     clear ZY o65 UQ UO Jz XI k64 o64 hso hsl g59 UM UN o59 UL Jy
     go_wp2_with fail
     refine⟨⟨k+1,oZ++[⟨bV (S:Int) (p:Int),S,p,false,ys⟩],by omega,by omega,by go_num,⟨by have:=hpc.out.1;simp;omega,HRW.out _ ?_⟩,?_,?_,Z8.out,Z5.out⟩,by simp[intOf];omega⟩
     ·exact⟨KY.out.1,KY.out.2,rfl,Z9.out.len,(show S<=6 by omega),(show p<=S by omega),Z9.out.small,(λ_=>⟨rfl,Z9.out.ptrs⟩),(λh=>by cases h)⟩
     ·rw[yI]
      exact Z7.out
     ·rw[yw _ rfl]
      exact Z4.out
    |false=>
     clear hgo
     go_wp2_with fail
     refine(xq sz pt _ g _ hone Bj.out.sz Bj.out.pt).mono ?_;rintro e w1 ⟨rfl,k1⟩
     generalize hSS:aC sz 7=sI at*
     generalize TS:aC pt (sI+1)=pI at*
     obtain⟨S,rfl⟩:=Int.eq_ofNat_of_zero_le hS1
     obtain⟨p,rfl⟩:=Int.eq_ofNat_of_zero_le hP1
     have KY:Hid (aC sz 7=(S:Int)/\aC pt ((S:Int)+1)=(p:Int)):=⟨hSS,TS⟩
     clear hSS TS
     have y3:=ah k1 x3
     have XF:b<w1.heap.size:=by have:=hb.out.size;have:=k1.size;omega
     have hne1:b≠w1.heap.size:=by omega
     go_wp2_with fail
     refine(qN S p _).mono ?_;rintro e W ⟨rfl,k3⟩
     have hrb:bJ (S:Int) (p:Int)=true:=jS (by omega)
     rw[I7 hrb]
     have HB:Hid (Below w.heap.size w W):=by
      have:=hb.out
      show Below _ _ _
      exact bm
     have hkk:Below wr.heap.size wr W:=by exact bm
     have HV:=Lib.hid (hv.out.tr hkk)
     have HU:=Lib.hid (hu.out.tr hkk)
     have HA:=Lib.hid hvu.out
     have HU7:Hid (∀j,u7.ownBlock=some j->j<W.heap.size):=CX HU.out (Nat.le_refl _)
     have yK:Hid (∀j,u6.ownBlock=some j->j<W.heap.size):=Hy HV.out (Nat.le_refl _)
     have hWs:=HB.out.size
     have HZ:Hid (0<W.heap.size):=by show 0<_;omega
     have hwl:=xJ hpc.out.2
     have hsl2:=yJ oZ
     have hpl:=hpc.out.1
     have XH:Hid ((wordsOf oZ).length+[bV (S:Int) (p:Int)].length<1000000000000):=by show _<_;simp;omega
     have HL2:Hid (∀ys:List Int,ys.length=S->(wordsOf oZ++[bV (S:Int) (p:Int)]).length+ys.length<1000000000000):=λys h=>by simp;omega
     clear hwl hsl2 hpl k1 k3 hb hkk y3 hne1 XF hrb x0 x1 x2 x3 hv hu hvu
     go_upto_region 12 with(fail)
     go_region_held3 (λw'=>w'.cell? ⟨b,off+k*4,none⟩=some (.int .i64 sz)/\w'.cell? ⟨b,off+k*4+1,none⟩=some (.int .i64 pt)/\w'.cell? ⟨b,off+k*4+2,none⟩=some (.slice a0 l0 c0)/\w'.cell? ⟨b,off+k*4+3,none⟩=some (.bool g))
      (first|(refine YV (qW HB.out HV.out ?_) HX.out;(repeat(first|with_reducible exact nP _ _|with_reducible assumption|with_reducible refine mQ ?_ _|with_reducible refine qX ?_))))
      (first
       |(refine xI ?_ (.tmp 56) (.tmp 58) ?_ w.heap.size u6 (.slice (some ⟨W.heap.size,0,none⟩) 1 1) (wordsOf oZ) [bV (S:Int) (p:Int)] ?_ ?_ ?_ ?_ XH.out ?_ ?_;rfl;rfl;rfl;rfl;(refine HV.out.tr ?_;exact bm);(refine(nT W (bV (S:Int) (p:Int))).tr ?_;exact bm);(first|exact hWs|exact kM hWs);intro v59 w59 o59 UL Jy;obtain⟨g59,UM,UN⟩:=st1 (W:=W) (u:=u7) (by(repeat(first|with_reducible exact nP _ _|with_reducible assumption|with_reducible refine mQ ?_ _|with_reducible refine qX ?_))) UL Jy HA.out HU7.out)
       |(go_at_call 41;refine(Ee sz pt (.slice a0 l0 c0) g zs _ (HOW.out.sl.tr ?_) Bj.out.sz Bj.out.pt KY.out.1 KY.out.2 (by omega)).mono ?_;(refine qW HB.out HV.out ?_;(repeat(first|with_reducible exact nP _ _|with_reducible assumption|with_reducible refine mQ ?_ _|with_reducible refine qX ?_)));rintro e w64 ⟨⟨v64,ys,rfl,o64,hso,hsl⟩,k64⟩;have XI:W.grownBy w64 u6.ownBlock:=(by refine OH ?_ k64;(repeat(first|with_reducible exact nP _ _|with_reducible assumption|with_reducible refine mQ ?_ _|with_reducible refine qX ?_))))
       |(refine xI ?_ (.tmp 59) (.tmp 64) ?_ w.heap.size v59 v64 (wordsOf oZ++[bV (S:Int) (p:Int)]) ys ?_ ?_ ?_ ?_ (HL2.out ys hso.len) ?_ ?_;rfl;rfl;rfl;rfl;(refine o59.tr ?_;exact bm);(exact o64.sees (Nat.lt_of_lt_of_le HZ.out XI.size) hsl);(exact Nat.le_trans hWs XI.size);intro v65 ZX o65 UO Jz;obtain⟨ZY,UQ⟩:=st2 (W:=W) (u:=u7) XI UN UO Jz UM HU7.out))
     have Z4:Hid (bH ZX w.heap.size u7 (aJ oZ)):=HU.out.row ZY HA.out.sym
     have Z5:Hid (Below w.heap.size w ZX):=qW HB.out HV.out ZY
     have Z7:Hid (aT ZX w.heap.size v65 (wordsOf oZ++bV (S:Int) (p:Int)::ys)):=by
      show aT _ _ _ _
      simpa using o65
     have Z8:=Lib.hid UQ
     have Z9:=Lib.hid hso
     clear ZY o65 UQ UO Jz XI k64 o64 hso hsl g59 UM UN o59 UL Jy
     go_wp2_with fail
     refine⟨⟨k+1,oZ++[⟨bV (S:Int) (p:Int),S,p,false,ys⟩],by omega,by omega,by go_num,⟨by have:=hpc.out.1;simp;omega,HRW.out _ ?_⟩,?_,?_,Z8.out,Z5.out⟩,by simp[intOf];omega⟩
     ·exact⟨KY.out.1,KY.out.2,rfl,Z9.out.len,(show S<=6 by omega),(show p<=S by omega),Z9.out.small,(λ_=>⟨rfl,Z9.out.ptrs⟩),(λh=>by cases h)⟩
     ·rw[yI]
      exact Z7.out
     ·rw[yw _ rfl]
      exact Z4.out
  ·have hmin:k=min n 8:=by omega
   have agC:Hid (¬(k:Int)<(n:Int)\/((k:Int)<(n:Int)/\¬(k:Int)<8)):=by show _\/_;omega
   have HP:Hid (oZ.length=min n 8/\zN old L oZ):=⟨by rw[hpc.out.1];exact hmin,hpc.out.2⟩
   clear hmin hlt
   rcases agC.out with h|⟨h,h'⟩
   ·go_wp2_with fail
    go_ret2
    exact⟨⟨oZ,_,_,rfl,HP.out.1,HP.out.2,hv.out,hu.out⟩,hb.out⟩
   ·go_wp2_with fail
    go_ret2
    exact⟨⟨oZ,_,_,rfl,HP.out.1,HP.out.2,hv.out,hu.out⟩,hb.out⟩
end Go.Proofs.YtpgjploaliefdaaGreat.ob
namespace Go.Proofs.YtpgjploaliefdaaGreat.ob
open Go.RowKit hd
theorem oI{W:World}{B:Nat}{v:Value}{zs:List Ob}(h:cu W B v zs){N:Nat}(hN:W.heap.size<=N):∀k,v.ownBlock=some k->k<N:=λk hk=>by have:=World.ownsRow.lt h k hk;omega
theorem OI{W w:World}{B:Nat}{v:Value}{zs:List Ob}{r:Option Nat}(h:cu W B v zs)(hg:W.grownBy w r)(hr:v.ownBlock=none\/v.ownBlock≠r):cu w B v zs:=World.ownsRow.kept h hg hr
theorem F9(l:List Ob):(jX l).length=l.length*5:=by
 induction l with
 |nil=>rfl
 |cons a l ih=>simp[jX,dG,ih];omega
theorem QE(l m:List Ob):jX (l++m)=jX l++jX m:=by
 induction l with
 |nil=>rfl
 |cons a l ih=>simp[jX,ih]
theorem QF(l:List Ob):∀u∈jX l,u.oneCell'=true:=by
 induction l with
 |nil=>intro u hu;cases hu
 |cons a l ih=>
  intro u hu
  rcases List.mem_append.1 (show u∈dG a++jX l from hu)with h|h
  ·simp[dG]at h
   rcases h with rfl|rfl|rfl|rfl|rfl<;>rfl
  ·exact ih u h
theorem UR{w:World}{u:Value}{ys:List Ob}(h:bT w u ys):(u=.slice none 0 0/\ys.length=0/\jX ys=[])\/∃ad c,u=.slice (some ad) ys.length c/\∀j y,(jX ys)[j]? =some y->w.cell? (ad.add j)=some y:=by
 obtain⟨ad,b,off,cap,rfl,⟨h1,h2⟩,h3,h4,h5,h6⟩:=h
 rcases ad with _|ad
 ·have hz:ys=[]:=by
   rcases Nat.eq_zero_or_pos ys.length with e|e
   ·exact List.eq_nil_of_length_eq_zero e
   ·cases h1 e
  subst hz
  rw[h2 rfl]
  exact .inl ⟨rfl,rfl,rfl⟩
 ·refine .inr ⟨ad,cap,rfl,λj y hj=> ?_⟩
  have hl:j<ys.length*5:=by
   rcases Nat.lt_or_ge j (ys.length*5)with e|e
   ·exact e
   ·rw[List.getElem?_eq_none (by rw[F9];exact e)]at hj;cases hj
  have h7:=h1 (by omega)
  cases h7
  have e:(⟨b,off,none⟩:Addr).add j=⟨b,off+j,none⟩:=by unfold Addr.add;split<;>simp_all
  rw[e]
  obtain⟨c0,c1,c2,c3,c4⟩:=h6.at (j/5) (by omega)
  have hm:j%5=0\/j%5=1\/j%5=2\/j%5=3\/j%5=4:=by omega
  have hf:=xw ys (j/5) (j%5) (by omega) (by omega)
  rw[show j/5*5+j%5=j from by omega,hj]at hf
  rcases hm with hm|hm|hm|hm|hm
  ·rw[hm]at hf;simp[dG]at hf;rw[show off+j=off+j/5*5 from by omega,c0,hf]
  ·rw[hm]at hf;simp[dG]at hf;rw[show off+j=off+j/5*5+1 from by omega,c1,hf]
  ·rw[hm]at hf;simp[dG]at hf;rw[show off+j=off+j/5*5+2 from by omega,c2,hf]
  ·rw[hm]at hf;simp[dG]at hf;rw[show off+j=off+j/5*5+3 from by omega,c3,hf]
  ·rw[hm]at hf;simp[dG]at hf;rw[show off+j=off+j/5*5+4 from by omega,c4,hf]
theorem sQ{ops:Array Oper}{rest:List Oper}{o:Oper}{a:Act}{Q:Exit->Act->World->Prop}(w:World)(hw:Region.wanted o (yielded ops a.tmps)=true)(s x:Operand)
  (ho:o.op=.call {callee:=.builtin .append,args:= #[s,x],argTypes:= #[28,28]})
  (B:Nat) (v u:Value) (xs ys:List Ob) (hs:a.eval s=v) (hx:a.eval x=u) (hown:cu w B v xs) (hys:bT w u ys) (hbig:xs.length+ys.length<1000000000) (hB:B<=w.heap.size)
  (h:∀v' w',cu w' B v' (xs++ys)->w.grownBy w' v.ownBlock->(v'.ownBlock=v.ownBlock\/v'.ownBlock=some w.heap.size)->wpList Tryz.prog ops Q rest (a.put o.dst v') w'):wpList Tryz.prog ops Q (o::rest) a w:=by
 obtain⟨i0,hi,hz0,hz1,hz2⟩:=info_parts Oi
 refine mW w hw s x _ ho B 58 i0 (.agg #[.int .i64 0,.int .i64 0,.int .i64 0,.bool false,.int .u64 0]) 5 40 Tryz.underlying28 hi hz0 hz1 hz2 rfl (by decide) v xs.length (jX xs) hs hown u ys.length (jX ys) hx (UR hys) (F9 ys) (QF ys) (by unfold maxLen;omega) (by omega) hB ?_
 intro v' w' h2 h3 h4
 refine h v' w' ?_ h3 h4
 unfold cu
 rw[QE]
 simpa using h2
theorem cu.nil(W:World)(B:Nat):cu W B (.slice none 0 0) []:=World.ownsRow_nil _ _ _ _
theorem xM{w W0 W W':World}{v:Value}{zs:List Ob}(hb:Below w.heap.size w W)(ho:cu W0 w.heap.size v zs)(hg:W.grownBy W' v.ownBlock):Below w.heap.size w W':=by
 have hol:=World.ownsRow.lt ho
 exact⟨hg.os.trans hb.os,hg.tape.trans hb.tape,hg.output.trans hb.output,Nat.le_trans hb.size hg.size,λj hj=>(hg.block j (Nat.lt_of_lt_of_le hj hb.size) (λe=>by have:=hol j e.symm;omega)).trans (hb.block j hj)⟩
end Go.Proofs.YtpgjploaliefdaaGreat.ob
namespace Go.Proofs.YtpgjploaliefdaaGreat.ob
open Go.RowKit hd
set_option linter.unusedVariables false
set_option linter.unusedSimpArgs false
end Go.Proofs.YtpgjploaliefdaaGreat.ob
namespace Go.Proofs.YtpgjploaliefdaaGreat.ob
open Go.RowKit hd
set_option linter.unusedVariables false
set_option linter.unusedSimpArgs false
def jZ(len:Nat):List Ob->List Int->Option (List Int)
 |[],acc=>if acc.length=len then some acc else none
 |o::l,acc=>if bJ o.s o.p=false\/o.pos≠acc.length then none else jZ len l (acc++nU o)
theorem BU{len:Nat}:∀{l:List Ob}{acc:List Int},len<acc.length->jZ len l acc=none
 |[],acc,h=>by unfold jZ;rw[if_neg (by omega)]
 |o::l,acc,h=>by
  unfold jZ
  split
  ·rfl
  ·exact BU (by simp;omega)
theorem Bl(o:Ob):(nU o).length=o.s.toNat+1:=by simp[nU]
theorem Gf{len:Nat}:∀{l:List Ob}{acc:List Int},jZ len l acc=dY len l acc
 |[],acc=>rfl
 |o::l,acc=>by
  unfold jZ dY
  by_cases h1:bJ o.s o.p=false\/o.pos≠acc.length
  ·rw[if_pos h1,if_pos (by unfold nK;rcases h1 with h|h;exact .inr (.inr (.inl h));exact .inl h)]
  ·rw[if_neg h1]
   have hr:bJ o.s o.p=true:=by
    rcases hq:bJ o.s o.p with _|_
    ·exact absurd (.inl hq) h1
    ·rfl
   have hp:o.pos=acc.length:=by
    rcases Int.decEq o.pos acc.length with h|h
    ·exact absurd (.inr h) h1
    ·exact h
   obtain⟨q1,q2,q3,q4⟩:=kJ hr
   by_cases h2:nK len acc o
   ·rw[if_pos h2]
    refine BU ?_
    rw[List.length_append,Bl]
    unfold nK at h2
    rcases h2 with h|h|h|h
    ·exact absurd hp h
    ·omega
    ·rw[hr]at h;cases h
    ·omega
   ·rw[if_neg h2];exact Gf
set_option maxRecDepth 100000 in
set_option maxHeartbeats 4000000 in
theorem Hz(ad:Option Addr)(len cap:Nat)(v0:Value)(os:List Ob)(w:World)(hlen:len<1000000000000)(ho:bT w v0 os)(hn6:os.length<100000):
  Calls Tryz.prog 49 #[.slice ad len cap,v0] w λe w'=>xu w.heap.size (jZ len os []) e w'/\Below w.heap.size w w':=by
 obtain⟨ad',b,off,cap',rfl,⟨a1,a2⟩,a3,a4,a5,a6⟩:=ho
 have HA:=Lib.hid a1
 have HC:=Lib.hid a6
 clear a1 a2 a6
 generalize hn:os.length=n at*
 have HN:=Lib.hid hn
 clear hn
 go_enter Tryz.func49,Tryz.ntmps49
 go_wp2_with fail
 go_loopw [7,6] (λi v wr=>∃(k:Nat)(acc:List Int),k<=n/\i=.int .i64 k/\acc.length<=256*k/\Hid (jZ len os []=jZ len (os.drop k) acc)/\Hid (dH wr w.heap.size v acc)/\Hid (Below w.heap.size w wr)) (λi _ _=>n-(intOf i).toNat)
 case atStart=>exact⟨0,[],Nat.zero_le _,rfl,Nat.zero_le _,rfl,dH.nil _ _,Below.refl _ _⟩
 case round=>
  obtain⟨k,acc,hk,rfl,hal,hres,HO,yZ⟩:=hrel
  obtain⟨va,vc,hvf⟩:=HO.out.form
  subst hvf
  have hws:=yZ.out.size
  by_cases hlk:k<n
  ·obtain rfl:=HA.out (by omega)
   have hxk:=(HC.out.block (yZ.out.block b a5)).at k hlk
   have HS:=Lib.hid (hres.out.trans (by rw[tN (by have:=HN.out;omega)];rfl:jZ len (os.drop k) acc=if bJ (dL os k).s (dL os k).p=false\/(dL os k).pos≠acc.length then none else jZ len (os.drop (k+1)) (acc++nU (dL os k))))
   clear hres
   have hxw:=HC.out.at k hlk
   generalize dL os k=o at*
   obtain⟨p0,s,p,g,t⟩:=o
   obtain⟨x0,x1,x2,x3,x4⟩:=hxk
   obtain⟨_,y1,y2,_,_⟩:=hxw
   dsimp only at x0 x1 x2 x3 x4 y1 y2
   generalize hm:acc.length=m at*
   have HM:=Lib.hid hm
   have hbr:b<wr.heap.size:=by omega
   rcases h3:bJ s p with _|_
   ·have HR:Hid (jZ len os []=none):=HS.out.trans (if_pos (.inl h3))
    go_wp2_with fail
    refine(pF s p _).mono ?_;rintro e w1 ⟨rfl,k1⟩
    rw[h3]
    go_wp2_with fail
    go_ret2
    refine⟨by rw[HR.out];rfl,?_⟩
    have:=yZ.out
    exact bm
   ·obtain⟨r1,r2,r3,r4⟩:=kJ h3
    obtain⟨S,rfl⟩:=Int.eq_ofNat_of_zero_le r1
    obtain⟨P,rfl⟩:=Int.eq_ofNat_of_zero_le r3
    by_cases h1:p0=m
    ·subst h1
     have hb1:((m:Int)==(m:Int))=true:=by simp
     have HR:Hid (jZ len os []=jZ len (os.drop (k+1)) (acc++nU ⟨m,S,P,g,t⟩)):=HS.out.trans (if_neg (by rintro(q|q)<;>dsimp only at q<;>first|omega|(rw[h3]at q;cases q)))
     go_wp2_with fail
     refine(pF S P _).mono ?_;rintro e w1 ⟨rfl,k1⟩
     rw[h3]
     replace x0:=ah k1 x0
     have PX:Hid (Below w.heap.size w w1):=au yZ.out k1
     have EU:Hid (dH w1 w.heap.size (.slice va m vc) acc):=HO.out.tr k1
     have hs1:=PX.out.size
     clear k1 HO yZ x1 x2 x3 x4
     go_wp2_with (at_builtin;refine lu _ rfl _ _ rfl w.heap.size (.slice va m vc) (.slice (some ⟨w1.heap.size,0,none⟩) 1 1) acc [1] rfl rfl (EU.out.tr ((Below.refl _ _).alloc (Nat.le_refl _) _)) (rZ _ _) ?c0 ?c1 ?c2)
     case c0=>have:=HM.out;first|omega|(simp;omega)
     case c1=>first|omega|(simp;omega)
     case c2=>
     intro v2 w2 ho2 hg2 I8
     have HB2:Hid (Below w.heap.size w w2):=pG (PX.out.alloc hs1 _) (EU.out.tr ((Below.refl _ _).alloc (Nat.le_refl _) _)) hg2
     have ZE:=Lib.hid ho2
     have LD:Hid (acc.length=m):=HM.out
     clear ho2 hg2 I8 EU PX x0
     go_wp2_with fail
     go_loopw [9,6] (λi v wr2=>∃j:Nat,j<=S/\i=.int .i64 j/\Hid (dH wr2 w.heap.size v (acc++1::(List.range j).map (kd P)))/\Hid (Below w.heap.size w wr2)) (λi _ _=>S-(intOf i).toNat)
     case atStart=>exact⟨0,Nat.zero_le _,rfl,ZE.out,HB2.out⟩
     case round=>
      obtain⟨j,hj,rfl,ho3,hb3⟩:=hrel
      have hs3:=hb3.out.size
      have z1:=ah hb3.out y1
      have z2:=ah hb3.out y2
      have amQ:b<wr.heap.size:=by omega
      have amR:b≠wr.heap.size:=by omega
      by_cases hjS:j<S
      ·by_cases hjP:j<P
       ·have ZF:(j:Int)<(P:Int):=by omega
        have hkd:Hid (kd P j=2):=if_pos ZF
        obtain⟨Dx,l3,Dy,hv3⟩:=ho3.out.Ol
        subst hv3
        go_wp2_with (at_builtin;refine lu _ rfl _ _ rfl w.heap.size (.slice Dx l3 Dy) (.slice (some ⟨wr.heap.size,0,none⟩) 1 1) (acc++1::(List.range j).map (kd P)) [2] rfl rfl (ho3.out.tr ((Below.refl _ _).alloc (Nat.le_refl _) _)) (rZ _ _) ?c0 ?c1 ?c2)
        case c0=>have:=LD.out;first|omega|(simp;omega)
        case c1=>first|omega|(simp;omega)
        case c2=>
        intro v4 w4 tY hg4 iG
        have HB4:Hid (Below w.heap.size w w4):=pG (hb3.out.alloc hs3 _) (ho3.out.tr ((Below.refl _ _).alloc (Nat.le_refl _) _)) hg4
        rw[tX hkd.out]at tY
        have Xe:=Lib.hid tY
        clear tY hg4 iG
        go_wp2_with fail
        exact⟨⟨j+1,by omega,by go_num,Xe.out,HB4.out⟩,by simp[intOf];omega⟩
       ·have ZF:¬(j:Int)<(P:Int):=by omega
        have hkd:Hid (kd P j=3):=if_neg ZF
        obtain⟨Dx,l3,Dy,hv3⟩:=ho3.out.Ol
        subst hv3
        go_wp2_with (at_builtin;refine lu _ rfl _ _ rfl w.heap.size (.slice Dx l3 Dy) (.slice (some ⟨wr.heap.size,0,none⟩) 1 1) (acc++1::(List.range j).map (kd P)) [3] rfl rfl (ho3.out.tr ((Below.refl _ _).alloc (Nat.le_refl _) _)) (rZ _ _) ?c0 ?c1 ?c2)
        case c0=>have:=LD.out;first|omega|(simp;omega)
        case c1=>first|omega|(simp;omega)
        case c2=>
        intro v4 w4 tY hg4 iG
        have HB4:Hid (Below w.heap.size w w4):=pG (hb3.out.alloc hs3 _) (ho3.out.tr ((Below.refl _ _).alloc (Nat.le_refl _) _)) hg4
        rw[tX hkd.out]at tY
        have Xe:=Lib.hid tY
        clear tY hg4 iG
        go_wp2_with fail
        exact⟨⟨j+1,by omega,by go_num,Xe.out,HB4.out⟩,by simp[intOf];omega⟩
      ·obtain rfl:j=S:=by omega
       go_wp2_with fail
       refine⟨⟨k+1,acc++nU ⟨m,j,P,g,t⟩,by omega,by go_num,?_,HR.out,ho3.out,hb3.out⟩,by simp[intOf];omega⟩
       have:=LD.out
       simp[nU];omega
    ·have h1b:(p0==(m:Int))=false:=beq_eq_false_iff_ne.mpr h1
     have HR:Hid (jZ len os []=none):=HS.out.trans (if_pos (.inr h1))
     go_wp2_with fail
     refine(pF S P _).mono ?_;rintro e w1 ⟨rfl,k1⟩
     rw[h3]
     replace x0:=ah k1 x0
     go_wp2_with fail
     go_ret2
     refine⟨by rw[HR.out];rfl,?_⟩
     have:=yZ.out
     exact bm
  ·obtain rfl:k=n:=by omega
   have HR:Hid (jZ len os []=if acc.length=len then some acc else none):=hres.out.trans (by rw[List.drop_of_length_le (by have:=HN.out;omega)];rfl)
   clear hres
   generalize hm:acc.length=m at*
   clear hm
   by_cases hml:m=len
   ·subst hml
    have hb1:((m:Int)==(m:Int))=true:=by simp
    go_wp2_with fail
    go_ret2
    exact⟨by rw[HR.out];first|rw[if_pos rfl]|rw[if_pos trivial];exact⟨_,rfl,HO.out⟩,yZ.out⟩
   ·have hb1:((m:Int)==(len:Int))=false:=beq_eq_false_iff_ne.mpr (by omega)
    go_wp2_with fail
    go_ret2
    exact⟨by rw[HR.out,if_neg hml];rfl,yZ.out⟩
end Go.Proofs.YtpgjploaliefdaaGreat.ob
