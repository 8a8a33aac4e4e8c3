/- The document's layer 11: goes. No conditions. -/
import Derived.Test.YtpgjploaliefdaaGreatG07
import Derived.Deep.CutBlock
import Derived.Deep.DeepCutAuto
import Derived.Deep.CutRange
import Derived.Deep.QuietTactic
import Derived.BigQuiet
namespace Go.Proofs.YtpgjploaliefdaaGreat.rf
open Go Go.RowKit hp ob hd cp ck gr lx rh
set_option linter.unusedVariables false
set_option linter.unusedSimpArgs false
set_option maxRecDepth 100000
set_option maxHeartbeats 4000000
def Ba(W:World)(u:Value)(s:P4):Prop:=∃(b:Nat)(vs:Nat->Value),u=.slice (some ⟨b,0,none⟩) 5 5/\b<W.heap.size/\(∀x:Nat,1<=x->x<=4->∃a n c,vs x=.slice a n c)/\∀x:Nat,1<=x->x<=4->W.cell? ⟨b,x,none⟩=some (vs x)/\bT W (vs x) (s.obs x)
theorem Ba.tr{W w:World}{u:Value}{s:P4}(k:Ba W u s)(hb:Below W.heap.size W w):Ba w u s:=by
 obtain⟨b,vs,e,hl,hv,h⟩:=k
 exact⟨b,vs,e,Nat.lt_of_lt_of_le hl hb.size,hv,λx h1 h2=>⟨ah hb (h x h1 h2).1,(h x h1 h2).2.tr hb⟩⟩
def Stand(h:Hp)(s:P4):Prop:=∀x:Nat,1<=x->x<=4->∀o∈s.obs x,0<=o.pos/\o.pos<jG h.lay x
theorem Eb(h:Hp)(v:Hv)(u:Value)(s:P4)(x y:Nat)(z:Int)(w:World)(hf:HF h v)(hr:fZ h.lay=true)(hx:1<=x/\x<=4)(hy:1<=y/\y<=4)(hu:Ba w u s)(hst:Stand h s)(hz:0<=z/\z<18446744073709551616):
  Calls Tryz.prog 65 #[fD h v,u,.int .u64 z,.int .i64 x,.int .i64 y] w λe w'=>e=.returned (.bool (dU h.lay s z x y))/\Below w.heap.size w w':=by
 obtain⟨b,vs,rfl,hb,hvs,hcs⟩:=hu
 obtain⟨xC,xO⟩:=hcs x hx.1 hx.2
 obtain⟨yC,yO⟩:=hcs y hy.1 hy.2
 have HAX:Hid (∀W,Below w.heap.size w W->Calls Tryz.prog 90 #[fD h v,.int .i64 x,vs x,.int .u64 (gB z)] W λe w'=>e=.returned (.tuple #[oV ((ug h.lay x (s.obs x) (gB z)).getD ZN),.bool (ug h.lay x (s.obs x) (gB z)).isSome])/\Below W.heap.size W w'):=Lib.hid λW hb=>L9 h v x _ _ _ W hf hr hx (xO.tr hb) (hst x hx.1 hx.2)
 have HAY:Hid (∀W,Below w.heap.size w W->Calls Tryz.prog 90 #[fD h v,.int .i64 y,vs y,.int .u64 (gB z)] W λe w'=>e=.returned (.tuple #[oV ((ug h.lay y (s.obs y) (gB z)).getD ZN),.bool (ug h.lay y (s.obs y) (gB z)).isSome])/\Below W.heap.size W w'):=Lib.hid λW hb=>L9 h v y _ _ _ W hf hr hy (yO.tr hb) (hst y hy.1 hy.2)
 have HAD:Hid (∀W,Calls Tryz.prog 53 #[.int .u64 z] W λe w'=>e=.returned (.tuple #[.int .u64 (gB z),.int .i64 (mD z)])/\W=w'):=Lib.hid λW=>iT z W hz.1 hz.2
 have HG:Hid (dU h.lay s z x y=(decide (z=0)||(decide (mD z=0)&&((ug h.lay x (s.obs x) (gB z)).isSome||(ug h.lay y (s.obs y) (gB z)).isSome)))):=rfl
 generalize dU h.lay s z x y=G at*
 generalize(ug h.lay x (s.obs x) (gB z)).isSome=bx at*
 generalize(ug h.lay y (s.obs y) (gB z)).isSome=by_ at*
 generalize(ug h.lay x (s.obs x) (gB z)).getD ZN=ox at*
 generalize(ug h.lay y (s.obs y) (gB z)).getD ZN=oy at*
 obtain⟨o1,o2,o3,o4,o5⟩:=ox
 obtain⟨q1,q2,q3,q4,q5⟩:=oy
 obtain⟨xa,xn,xc,ex⟩:=hvs x hx.1 hx.2
 obtain⟨ya,yn,yc,ey⟩:=hvs y hy.1 hy.2
 rw[ex]at HAX xC
 rw[ey]at HAY yC
 clear hcs xO yO hr hst hvs ex ey
 generalize gB z=A at*
 generalize hE:mD z=E at*
 clear hE
 have hx5:(x:Int)<5:=by omega
 have hy5:(y:Int)<5:=by omega
 obtain⟨vl,vh,vo,vf,vr⟩:=v
 obtain⟨⟨la,lc,e1⟩,⟨ha,hc,e2⟩,⟨oa,oc,e3⟩,⟨fa,fc,e4⟩,⟨ra,rn,rc,e5⟩⟩:=hf
 dsimp only at e1 e2 e3 e4 e5
 subst e1 e2 e3 e4 e5
 unfold fD oV at*
 dsimp only at*
 generalize h.base=B1 at*
 generalize h.cap=C1 at*
 generalize h.tt=T1 at*
 generalize h.dJ=Y1 at*
 generalize h.scan=S1 at*
 generalize h.low.length=m1 at*
 generalize h.high.length=m2 at*
 generalize h.old.length=m3 at*
 generalize h.far.length=m4 at*
 generalize rn=m5 at*
 by_cases h0:z=0
 ·subst h0
  have HG2:Hid (G=true):=Lib.hid (by rw[HG.out];simp)
  go_enter Tryz.func65,Tryz.ntmps65
  go_wp2_with fail
  go_ret
  exact⟨by rw[HG2.out];rfl,bm⟩
 ·by_cases hE:E=0
  ·have HG2:Hid (G=(bx||by_)):=Lib.hid (by rw[HG.out];simp[h0,hE])
   subst hE
   go_enter Tryz.func65,Tryz.ntmps65
   go_wp2_with fail
   refine(HAD.out _).mono ?_;rintro e W0 ⟨rfl,rfl⟩
   have hK1:=Lib.hid (aj.new w #[Value.int .u64 B1,.int .i64 C1,.int .i64 T1,.bool Y1,.int .i64 S1,.slice la m1 lc,.slice ha m2 hc,.slice oa m3 oc,.slice fa m4 fc,.slice ra m5 rc] 32)
   have b0:Below w.heap.size w (w.alloc (.cells #[Value.int .u64 B1,.int .i64 C1,.int .i64 T1,.bool Y1,.int .i64 S1,.slice la m1 lc,.slice ha m2 hc,.slice oa m3 oc,.slice fa m4 fc,.slice ra m5 rc] 32)):=bm
   generalize w.alloc (.cells #[Value.int .u64 B1,.int .i64 C1,.int .i64 T1,.bool Y1,.int .i64 S1,.slice la m1 lc,.slice ha m2 hc,.slice oa m3 oc,.slice fa m4 fc,.slice ra m5 rc] 32)=W0 at*
   replace xC:=ah b0 xC
   replace yC:=ah b0 yC
   have hb':=Nat.lt_of_lt_of_le hb b0.size
   go_upto_region 6 with(fail)
   go_cut [14] (λv wx=>v=.bool bx/\Below W0.heap.size W0 wx)
   case first=>
    have mZ:Hid (∀W':World,Below W0.heap.size W0 W'->(∀i,W'.cell? ⟨w.heap.size,i,none⟩= #[Value.int .u64 B1,.int .i64 C1,.int .i64 T1,.bool Y1,.int .i64 S1,.slice la m1 lc,.slice ha m2 hc,.slice oa m3 oc,.slice fa m4 fc,.slice ra m5 rc][i]?)/\W'.cell? ⟨b,x,none⟩=some (.slice xa xn xc)):=Lib.hid λW' h=>⟨((hK1.out.tr (Below.refl W0.heap.size W0)).tr h).get.2.1,ah h (ah (Below.refl W0.heap.size W0) xC)⟩
    have K1:=hK1.out.tr (Below.refl W0.heap.size W0)
    have hsz:=((Below.refl W0.heap.size W0)).size
    obtain⟨l1,c1,f1⟩:=K1.get
    have cC:=ah (Below.refl W0.heap.size W0) xC
    refine wp_region_held_drew (S:=(λW'=>(∀i,W'.cell? ⟨w.heap.size,i,none⟩= #[Value.int .u64 B1,.int .i64 C1,.int .i64 T1,.bool Y1,.int .i64 S1,.slice la m1 lc,.slice ha m2 hc,.slice oa m3 oc,.slice fa m4 fc,.slice ra m5 rc][i]?)/\W'.cell? ⟨b,x,none⟩=some (.slice xa xn xc))) (by kernel_rfl) ?_ (λhHeld=> ?_)
    ·(try dsimp only);exact mZ.out _ bm
    refine tk 0 ?_
    refine tk 1 ?_
    refine tk 2 ?_
    refine tk 3 ?_
    refine tk 4 ?_
    refine tk 5 ?_
    refine tk 6 ?_
    refine wpAnyH_ready (rs:=[7,11]) (by kernel_rfl) (by simp) ?_
    refine AllReadyH.cons rfl (λK hK=> ?_) (AllReadyH.cons rfl (λK hK=> ?_) AllReadyH.nil)
    ·go_simp
     go_at_call 90;refine(HAX.out _ bm).mono ?_;rintro e w2 ⟨rfl,k2⟩;go_wp2_with fail
     refine hK.out _ _ ?_ (λhHeld=> ?_)
     ·exact mZ.out _ bm
     clear hK K
     refine nx ?_
     refine tk 8 ?_
     refine tk 9 ?_
     refine tk 10 ?_
     refine co 11 λK hK=> ?_
     go_simp
     skip
     refine hK.out _ _ ?_ (λhHeld=> ?_)
     ·(try dsimp only);exact mZ.out _ bm
     clear hK K
     refine nx ?_
     refine co 12 λK hK=> ?_
     go_simp
     skip
     refine hK.out _ _ ?_ (λhHeld=> ?_)
     ·(try dsimp only);exact mZ.out _ bm
     clear hK K
     refine nx ?_
     refine tk 13 ?_
     refine wpAnyH_done (by kernel_rfl) ?_ _
     go_wp2_with fail
     go_meet
     exact⟨rfl,bm⟩
    ·go_simp
     refine hK.out _ _ ?_ (λhHeld=> ?_)
     ·exact mZ.out _ bm
     clear hK K
     refine nx ?_
     refine co 7 λK hK=> ?_
     go_simp
     go_at_call 90;refine(HAX.out _ bm).mono ?_;rintro e w2 ⟨rfl,k2⟩;go_wp2_with fail
     refine hK.out _ _ ?_ (λhHeld=> ?_)
     ·(try dsimp only);exact mZ.out _ bm
     clear hK K
     refine nx ?_
     have KN:aj w2 W0.heap.size #[.int .i64 0,.int .i64 0,.int .i64 0,.bool false,.int .u64 0] 58:=bk
     obtain⟨lN,cN,fN⟩:=KN.get
     refine tk 8 ?_
     refine tk 9 ?_
     refine tk 10 ?_
     refine co 12 λK hK=> ?_
     go_simp
     skip
     refine hK.out _ _ ?_ (λhHeld=> ?_)
     ·(try dsimp only);exact mZ.out _ bm
     clear hK K
     refine nx ?_
     refine tk 13 ?_
     refine wpAnyH_done (by kernel_rfl) ?_ _
     go_wp2_with fail
     go_meet
     exact⟨rfl,bm⟩
   case rest=>
   obtain⟨rfl,hb1⟩:=hcut
   go_upto_region 7 with(fail)
   go_cut [16] (λv wx=>v=.bool by_/\Below W0.heap.size W0 wx)
   case first=>
    have mZ:Hid (∀W':World,Below wc.heap.size wc W'->(∀i,W'.cell? ⟨w.heap.size,i,none⟩= #[Value.int .u64 B1,.int .i64 C1,.int .i64 T1,.bool Y1,.int .i64 S1,.slice la m1 lc,.slice ha m2 hc,.slice oa m3 oc,.slice fa m4 fc,.slice ra m5 rc][i]?)/\W'.cell? ⟨b,y,none⟩=some (.slice ya yn yc)):=Lib.hid λW' h=>⟨((hK1.out.tr hb1).tr h).get.2.1,ah h (ah hb1 yC)⟩
    have K1:=hK1.out.tr hb1
    have hsz:=(hb1).size
    obtain⟨l1,c1,f1⟩:=K1.get
    have cC:=ah hb1 yC
    refine wp_region_held_drew (S:=(λW'=>(∀i,W'.cell? ⟨w.heap.size,i,none⟩= #[Value.int .u64 B1,.int .i64 C1,.int .i64 T1,.bool Y1,.int .i64 S1,.slice la m1 lc,.slice ha m2 hc,.slice oa m3 oc,.slice fa m4 fc,.slice ra m5 rc][i]?)/\W'.cell? ⟨b,y,none⟩=some (.slice ya yn yc))) (by kernel_rfl) ?_ (λhHeld=> ?_)
    ·(try dsimp only);exact mZ.out _ bm
    refine tk 0 ?_
    refine tk 1 ?_
    refine tk 2 ?_
    refine tk 3 ?_
    refine tk 4 ?_
    refine tk 5 ?_
    refine tk 6 ?_
    refine wpAnyH_ready (rs:=[7,11]) (by kernel_rfl) (by simp) ?_
    refine AllReadyH.cons rfl (λK hK=> ?_) (AllReadyH.cons rfl (λK hK=> ?_) AllReadyH.nil)
    ·go_simp
     go_at_call 90;refine(HAY.out _ bm).mono ?_;rintro e w2 ⟨rfl,k2⟩;go_wp2_with fail
     refine hK.out _ _ ?_ (λhHeld=> ?_)
     ·exact mZ.out _ bm
     clear hK K
     refine nx ?_
     refine tk 8 ?_
     refine tk 9 ?_
     refine tk 10 ?_
     refine co 11 λK hK=> ?_
     go_simp
     skip
     refine hK.out _ _ ?_ (λhHeld=> ?_)
     ·(try dsimp only);exact mZ.out _ bm
     clear hK K
     refine nx ?_
     refine co 12 λK hK=> ?_
     go_simp
     skip
     refine hK.out _ _ ?_ (λhHeld=> ?_)
     ·(try dsimp only);exact mZ.out _ bm
     clear hK K
     refine nx ?_
     refine tk 13 ?_
     refine wpAnyH_done (by kernel_rfl) ?_ _
     go_wp2_with fail
     go_meet
     exact⟨rfl,bm⟩
    ·go_simp
     refine hK.out _ _ ?_ (λhHeld=> ?_)
     ·exact mZ.out _ bm
     clear hK K
     refine nx ?_
     refine co 7 λK hK=> ?_
     go_simp
     go_at_call 90;refine(HAY.out _ bm).mono ?_;rintro e w2 ⟨rfl,k2⟩;go_wp2_with fail
     refine hK.out _ _ ?_ (λhHeld=> ?_)
     ·(try dsimp only);exact mZ.out _ bm
     clear hK K
     refine nx ?_
     have KN:aj w2 wc.heap.size #[.int .i64 0,.int .i64 0,.int .i64 0,.bool false,.int .u64 0] 58:=bk
     obtain⟨lN,cN,fN⟩:=KN.get
     refine tk 8 ?_
     refine tk 9 ?_
     refine tk 10 ?_
     refine co 12 λK hK=> ?_
     go_simp
     skip
     refine hK.out _ _ ?_ (λhHeld=> ?_)
     ·(try dsimp only);exact mZ.out _ bm
     clear hK K
     refine nx ?_
     refine tk 13 ?_
     refine wpAnyH_done (by kernel_rfl) ?_ _
     go_wp2_with fail
     go_meet
     exact⟨rfl,bm⟩
   case rest=>
   obtain⟨rfl,hb2⟩:=hcut
   cases bx
   ·go_wp2_with fail
    go_ret
    exact⟨by rw[HG2.out];rfl,bm⟩
   ·go_wp2_with fail
    go_ret
    exact⟨by rw[HG2.out];rfl,bm⟩
  ·have HG2:Hid (G=false):=Lib.hid (by rw[HG.out];simp[h0,hE])
   go_enter Tryz.func65,Tryz.ntmps65
   go_wp2_with fail
   refine(HAD.out _).mono ?_;rintro e W0 ⟨rfl,rfl⟩
   go_wp2_with fail
   go_ret
   exact⟨by rw[HG2.out];rfl,bm⟩
end Go.Proofs.YtpgjploaliefdaaGreat.rf
namespace Go.Proofs.YtpgjploaliefdaaGreat.rf
open Go Go.RowKit hp ob hd cp ck gr lx rh
set_option linter.unusedVariables false
set_option linter.unusedSimpArgs false
set_option maxRecDepth 100000
set_option maxHeartbeats 4000000
def jy(s:P4)(p:Nat):List Ob:=if p<=3 then []else if p=4 then s.c else s.c++s.d
theorem FZ(s:P4)(p:Nat)(h:3<=p/\p<=4):jy s (p+1)=jy s p++s.obs p:=by
 rcases(show p=3\/p=4 by omega)with rfl|rfl<;>rfl
theorem MB(l:List Ob)(o:Ob):bM (l++[o])=if o.g then bM l else bM l+(1+o.s):=by
 unfold bM
 rw[List.foldl_append]
 rfl
theorem Jr{l:List Ob}(h:∀o∈l,0<=o.s/\o.s<=255):0<=bM l/\bM l<=256*(l.length:Int):=by
 have key:∀r:List Ob,(∀o∈r,0<=o.s/\o.s<=255)->∀n:Int,n<=r.foldl (λn o=>if o.g then n else n+(1+o.s)) n/\r.foldl (λn o=>if o.g then n else n+(1+o.s)) n<=n+256*(r.length:Int):=by
  intro r
  induction r with
  |nil=>intro _ n;simp
  |cons o r ih=>
   intro h n
   have ho:=h o (by simp)
   have:=ih (λo k=>h o (List.mem_cons_of_mem _ k)) (if o.g then n else n+(1+o.s))
   have hm:n<=(if o.g then n else n+(1+o.s))/\(if o.g then n else n+(1+o.s))<=n+256:=by split<;>omega
   rw[List.foldl_cons,List.length_cons]
   generalize(if o.g then n else n+(1+o.s))=m at*
   omega
 have:=key l h 0
 unfold bM
 omega
theorem take_snoc{l:List Ob}{k:Nat}(h:k<l.length):l.take (k+1)=l.take k++[dL l k]:=by
 rw[List.take_succ_eq_append_getElem h]
 simp[dL,List.getD,h]
theorem vV(u:Value)(s:P4)(w:World)(hu:Ba w u s)(hs:∀p,3<=p->p<=4->(∀o∈s.obs p,0<=o.s/\o.s<=255)/\(s.obs p).length<100000):
  Calls Tryz.prog 67 #[u] w λe w'=>e=.returned (.int .i64 (bM (s.c++s.d)))/\Below w.heap.size w w':=by
 obtain⟨b,vs,rfl,hb,hvs,hcs⟩:=hu
 have HV:Hid (∀p k,3<=p->p<=4->k<=(s.obs p).length->0<=bM (jy s p++(s.obs p).take k)/\bM (jy s p++(s.obs p).take k)<1000000000):=Lib.hid λp k h3 h4 hk=>by
  have h1:=hs 3 (by omega) (by omega)
  have h2:=hs 4 (by omega) (by omega)
  have hm:∀o∈jy s p++(s.obs p).take k,0<=o.s/\o.s<=255:=λo ho=>by
   rcases List.mem_append.1 ho with ho|ho
   ·unfold jy at ho
    split at ho
    ·cases ho
    ·split at ho
     ·exact h1.1 o ho
     ·rcases List.mem_append.1 ho with ho|ho
      ·exact h1.1 o ho
      ·exact h2.1 o ho
   ·exact(hs p h3 h4).1 o (List.mem_of_mem_take ho)
  have hle:=Jr hm
  have hl:(jy s p).length<=200000:=by
   have l1:s.c.length<100000:=h1.2
   have l2:s.d.length<100000:=h2.2
   unfold jy
   repeat' split
   ·simp
   ·omega
   ·rw[List.length_append];omega
  rw[List.length_append,List.length_take]at hle
  have:=(hs p h3 h4).2
  omega
 have HP:Hid (∀p,3<=p->p<=4->bM (jy s p++(s.obs p).take (s.obs p).length)=bM (jy s (p+1))):=Lib.hid λp h3 h4=>by rw[List.take_length,FZ s p ⟨h3,h4⟩]
 have WJ:Hid (∀p,bM (jy s p++(s.obs p).take 0)=bM (jy s p)):=Lib.hid λp=>by rw[List.take_zero,List.append_nil]
 have HST:Hid (∀p k,k<(s.obs p).length->bM (jy s p++(s.obs p).take (k+1))=if(dL (s.obs p) k).g then bM (jy s p++(s.obs p).take k)else bM (jy s p++(s.obs p).take k)+(1+(dL (s.obs p) k).s)):=Lib.hid λp k hk=>by
  rw[take_snoc hk,<-List.append_assoc,MB]
 have HE:Hid (bM (jy s 5)=bM (s.c++s.d)):=rfl
 have H0:Hid (bM (jy s 3)=0):=rfl
 have HOS:Hid (∀p k,3<=p->p<=4->k<(s.obs p).length->0<=(dL (s.obs p) k).s/\(dL (s.obs p) k).s<=255):=Lib.hid λp k h3 h4 hk=>(hs p h3 h4).1 _ (by unfold dL;rw[List.getD_eq_getElem?_getD,List.getElem?_eq_getElem hk];exact List.getElem_mem hk)
 rw[<-HE.out]
 have HCS:=Lib.hid hcs
 clear hs hcs hvs HE
 generalize hQ:(λp k=>bM (jy s p++(s.obs p).take k))=Q at*
 have YR:∀p k,bM (jy s p++(s.obs p).take k)=Q p k:=λp k=>by rw[<-hQ]
 simp only[YR]at HV HP WJ HST
 generalize hR:(λp=>bM (jy s p))=R at*
 have hRk:∀p,bM (jy s p)=R p:=λp=>by rw[<-hR]
 simp only[hRk]at HP WJ H0⊢
 clear hQ YR hR hRk
 go_enter Tryz.func67,Tryz.ntmps67
 go_wp2_with fail
 go_loopw [4,3] (λi n wr=>∃p:Nat,(3<=p/\p<=5)/\i=.int .i64 p/\n=.int .i64 (R p)/\Below w.heap.size w wr) (λi _ _=>5-(intOf i).toNat)
 case atStart=>exact⟨3,by omega,rfl,by rw[H0.out],Below.refl _ _⟩
 case round=>
  obtain⟨p,hp,rfl,rfl,bel⟩:=hrel
  by_cases XA:p<=4
  ·obtain⟨hc0,hob⟩:=HCS.out p (by omega) (by omega)
   obtain⟨ad,ob,oo,cap,ev,⟨a1,a2⟩,a3,a4,a5,a6⟩:=hob
   rw[ev]at hc0
   have hcell:=ah bel hc0
   have HA:=Lib.hid a1
   have HC:=Lib.hid (a6.block (bel.block ob a5))
   have HVp:=Lib.hid λk hk=>HV.out p k hp.1 XA hk
   have HPp:=Lib.hid (HP.out p hp.1 XA)
   have ZQ:=Lib.hid (WJ.out p)
   have ZR:=Lib.hid λk hk=>HST.out p k hk
   have agn:=Lib.hid λk hk=>HOS.out p k hp.1 XA hk
   have hpi:(p:Int)<5:=by omega
   clear a1 a2 a6 ev hc0
   generalize s.obs p=os at*
   generalize Q p=Qp at*
   generalize hn:os.length=n at*
   have HN:=Lib.hid hn
   clear hn
   have HB:=Lib.hid bel
   clear bel
   generalize wr=w1 at*
   go_wp2_with fail
   go_loopw [5,3] (λi x ws=>∃k:Nat,k<=n/\i=.int .i64 k/\x=.int .i64 (Qp k)/\Below w1.heap.size w1 ws) (λi _ _=>n-(intOf i).toNat)
   case atStart=>exact⟨0,Nat.zero_le _,rfl,by rw[ZQ.out],Below.refl _ _⟩
   case round=>
    obtain⟨k,hk,rfl,rfl,bel⟩:=hrel
    have hcell2:=ah bel hcell
    by_cases hlt:k<n
    ·obtain rfl:=HA.out (by omega)
     have hxk:=(HC.out.block (bel.block ob (Nat.lt_of_lt_of_le a5 HB.out.size))).at k hlt
     have hst:=ZR.out k hlt
     have hos:=agn.out k hlt
     have hvk:=HVp.out k hk
     generalize dL os k=o at*
     obtain⟨p0,s0,q0,g0,t0⟩:=o
     obtain⟨x0,x1,x2,x3,x4⟩:=hxk
     dsimp only at x0 x1 x2 x3 x4 hst hos
     have HS:=Lib.hid hst
     clear hst
     generalize Qp k=V at*
     cases g0
     ·have hw1:IntKind.i64.wrap (V+1)=V+1:=IntWalk.i64_in _ (by omega)
      have hw2:IntKind.i64.wrap (V+1+s0)=V+1+s0:=IntWalk.i64_in _ (by omega)
      have HS2:Hid (Qp (k+1)=V+1+s0):=Lib.hid (by have:=HS.out;simp at this;omega)
      clear HS
      go_wp2_with fail
      exact⟨⟨k+1,by omega,by go_num,by rw[HS2.out],bm⟩,by simp[intOf];omega⟩
     ·have HS2:Hid (Qp (k+1)=V):=Lib.hid (by have:=HS.out;simpa using this)
      clear HS
      go_wp2_with fail
      exact⟨⟨k+1,by omega,by go_num,by rw[HS2.out],bm⟩,by simp[intOf];omega⟩
    ·obtain rfl:k=n:=by omega
     have hz:=HPp.out
     go_wp2_with fail
     exact⟨⟨p+1,by omega,by go_num,by rw[hz],by have:=HB.out;exact bm⟩,by simp[intOf];omega⟩
  ·obtain rfl:p=5:=by omega
   go_wp2_with fail
   go_ret
   exact⟨rfl,bm⟩
theorem XB(l:List Ob)(o:Ob)(A:Int):(l++[o]).countP (λo=>o.g&&decide (o.t=A))=l.countP (λo=>o.g&&decide (o.t=A))+if o.g/\o.t=A then 1 else 0:=by
 rw[List.countP_append,List.countP_singleton]
 by_cases h:o.g/\o.t=A
 ·rw[if_pos h,if_pos (by simp[h.1,h.2])]
 ·rw[if_neg h,if_neg (by simpa using h)]
theorem Js(u:Value)(s:P4)(A:Int)(w:World)(hu:Ba w u s)(hs:∀p,3<=p->p<=4->(s.obs p).length<100000):
  Calls Tryz.prog 63 #[u,.int .u64 A] w λe w'=>e=.returned (.int .i64 (FK s A))/\Below w.heap.size w w':=by
 obtain⟨b,vs,rfl,hb,hvs,hcs⟩:=hu
 have HV:Hid (∀p k,3<=p->p<=4->k<=(s.obs p).length->(jy s p++(s.obs p).take k).countP (λo=>o.g&&decide (o.t=A))<1000000000):=Lib.hid λp k h3 h4 hk=>by
  have h1:=hs 3 (by omega) (by omega)
  have h2:=hs 4 (by omega) (by omega)
  have hle:=List.countP_le_length (p:=λo:Ob=>o.g&&decide (o.t=A)) (l:=jy s p++(s.obs p).take k)
  have hl:(jy s p).length<=200000:=by
   have l1:s.c.length<100000:=h1
   have l2:s.d.length<100000:=h2
   unfold jy
   repeat' split
   ·simp
   ·omega
   ·rw[List.length_append];omega
  rw[List.length_append,List.length_take]at hle
  have:=hs p h3 h4
  omega
 have HP:Hid (∀p,3<=p->p<=4->(jy s p++(s.obs p).take (s.obs p).length).countP (λo=>o.g&&decide (o.t=A))=(jy s (p+1)).countP (λo=>o.g&&decide (o.t=A))):=Lib.hid λp h3 h4=>by rw[List.take_length,FZ s p ⟨h3,h4⟩]
 have WJ:Hid (∀p,(jy s p++(s.obs p).take 0).countP (λo=>o.g&&decide (o.t=A))=(jy s p).countP (λo=>o.g&&decide (o.t=A))):=Lib.hid λp=>by rw[List.take_zero,List.append_nil]
 have HST:Hid (∀p k,k<(s.obs p).length->(jy s p++(s.obs p).take (k+1)).countP (λo=>o.g&&decide (o.t=A))=(jy s p++(s.obs p).take k).countP (λo=>o.g&&decide (o.t=A))+if(dL (s.obs p) k).g/\(dL (s.obs p) k).t=A then 1 else 0):=Lib.hid λp k hk=>by
  rw[take_snoc hk,<-List.append_assoc,XB]
 have HE:Hid ((jy s 5).countP (λo=>o.g&&decide (o.t=A))=FK s A):=rfl
 have H0:Hid ((jy s 3).countP (λo=>o.g&&decide (o.t=A))=0):=rfl
 rw[<-HE.out]
 have HCS:=Lib.hid hcs
 clear hs hcs hvs HE
 generalize hQ:(λp k=>(jy s p++(s.obs p).take k).countP (λo=>o.g&&decide (o.t=A)))=Q at*
 have YR:∀p k,(jy s p++(s.obs p).take k).countP (λo=>o.g&&decide (o.t=A))=Q p k:=λp k=>by rw[<-hQ]
 simp only[YR]at HV HP WJ HST
 generalize hR:(λp=>(jy s p).countP (λo=>o.g&&decide (o.t=A)))=R at*
 have hRk:∀p,(jy s p).countP (λo=>o.g&&decide (o.t=A))=R p:=λp=>by rw[<-hR]
 simp only[hRk]at HP WJ H0⊢
 clear hQ YR hR hRk
 go_enter Tryz.func63,Tryz.ntmps63
 go_wp2_with fail
 go_loopw [6,5] (λi n wr=>∃p:Nat,(3<=p/\p<=5)/\i=.int .i64 p/\n=.int .i64 (R p)/\Below w.heap.size w wr) (λi _ _=>5-(intOf i).toNat)
 case atStart=>exact⟨3,by omega,rfl,by rw[H0.out];rfl,Below.refl _ _⟩
 case round=>
  obtain⟨p,hp,rfl,rfl,bel⟩:=hrel
  by_cases XA:p<=4
  ·obtain⟨hc0,hob⟩:=HCS.out p (by omega) (by omega)
   obtain⟨ad,ob,oo,cap,ev,⟨a1,a2⟩,a3,a4,a5,a6⟩:=hob
   rw[ev]at hc0
   have hcell:=ah bel hc0
   have HA:=Lib.hid a1
   have HC:=Lib.hid (a6.block (bel.block ob a5))
   have HVp:=Lib.hid λk hk=>HV.out p k hp.1 XA hk
   have HPp:=Lib.hid (HP.out p hp.1 XA)
   have ZQ:=Lib.hid (WJ.out p)
   have ZR:=Lib.hid λk hk=>HST.out p k hk
   have hpi:(p:Int)<5:=by omega
   clear a1 a2 a6 ev hc0
   generalize s.obs p=os at*
   generalize Q p=Qp at*
   generalize hn:os.length=n at*
   have HN:=Lib.hid hn
   clear hn
   have HB:=Lib.hid bel
   clear bel
   generalize wr=w1 at*
   go_wp2_with fail
   go_loopw [7,5] (λi x ws=>∃k:Nat,k<=n/\i=.int .i64 k/\x=.int .i64 (Qp k)/\Below w1.heap.size w1 ws) (λi _ _=>n-(intOf i).toNat)
   case atStart=>exact⟨0,Nat.zero_le _,rfl,by rw[ZQ.out],Below.refl _ _⟩
   case round=>
    obtain⟨k,hk,rfl,rfl,bel⟩:=hrel
    have hcell2:=ah bel hcell
    by_cases hlt:k<n
    ·obtain rfl:=HA.out (by omega)
     have hxk:=(HC.out.block (bel.block ob (Nat.lt_of_lt_of_le a5 HB.out.size))).at k hlt
     have hst:=ZR.out k hlt
     have hvk:=HVp.out k hk
     generalize dL os k=o at*
     obtain⟨p0,s0,q0,g0,t0⟩:=o
     obtain⟨x0,x1,x2,x3,x4⟩:=hxk
     dsimp only at x0 x1 x2 x3 x4 hst
     have HS:=Lib.hid hst
     clear hst
     generalize Qp k=V at*
     have hw1:IntKind.i64.wrap ((V:Int)+1)=((V+1:Nat):Int):=by rw[IntWalk.i64_in _ (by omega)];omega
     cases g0
     ·have HS2:Hid (Qp (k+1)=V):=Lib.hid (by have:=HS.out;simpa using this)
      clear HS
      go_wp2_with fail
      exact⟨⟨k+1,by omega,by go_num,by rw[HS2.out],bm⟩,by simp[intOf];omega⟩
     ·by_cases ht:t0=A
      ·have HS2:Hid (Qp (k+1)=V+1):=Lib.hid (by have:=HS.out;rwa[if_pos ⟨rfl,ht⟩]at this)
       clear HS
       subst ht
       go_wp2_with fail
       exact⟨⟨k+1,by omega,by go_num,by rw[HS2.out];go_num,bm⟩,by simp[intOf];omega⟩
      ·have HS2:Hid (Qp (k+1)=V):=Lib.hid (by have:=HS.out;rwa[if_neg (λk=>ht k.2)]at this)
       clear HS
       go_wp2_with fail
       exact⟨⟨k+1,by omega,by go_num,by rw[HS2.out],bm⟩,by simp[intOf];omega⟩
    ·obtain rfl:k=n:=by omega
     have hz:=HPp.out
     go_wp2_with fail
     exact⟨⟨p+1,by omega,by go_num,by rw[hz],by have:=HB.out;exact bm⟩,by simp[intOf];omega⟩
  ·obtain rfl:p=5:=by omega
   go_wp2_with fail
   go_ret
   exact⟨rfl,bm⟩
end Go.Proofs.YtpgjploaliefdaaGreat.rf
