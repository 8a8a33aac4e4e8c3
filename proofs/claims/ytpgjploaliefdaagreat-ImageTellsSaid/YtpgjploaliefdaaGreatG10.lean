/- The reference of layer 6: its walk. No conditions. -/
import Derived.Test.YtpgjploaliefdaaGreatG02
import Derived.Test.YtpgjploaliefdaaGreatG09
import Derived.Deep.RegionHeld3
import Derived.StillTailTactics
namespace Go.Proofs.YtpgjploaliefdaaGreat.ob
open Go.RowKit hd
set_option linter.unusedVariables false
set_option linter.unusedSimpArgs false
theorem Ef(pos S:Nat)(p t:Int)(g:Bool)(zs:List Int):iK ⟨pos,S,p,g,t⟩ zs S=true↔rowOk ⟨pos,S,p,g,t⟩ (zs.drop (pos+1)) S:=by
 rw[mP]
 unfold oP rowOk
 simp[List.getD]
theorem uS{W w1:World}(hb:Below W.heap.size W w1){n:Nat}{u0 u1 u2 u3 u4:Value}
  (h:W.cell? ⟨n,0,none⟩=some u0/\W.cell? ⟨n,1,none⟩=some u1/\W.cell? ⟨n,2,none⟩=some u2/\W.cell? ⟨n,3,none⟩=some u3/\W.cell? ⟨n,4,none⟩=some u4):
  w1.cell? ⟨n,0,none⟩=some u0/\w1.cell? ⟨n,1,none⟩=some u1/\w1.cell? ⟨n,2,none⟩=some u2/\w1.cell? ⟨n,3,none⟩=some u3/\w1.cell? ⟨n,4,none⟩=some u4:=
 ⟨ah hb h.1,ah hb h.2.1,ah hb h.2.2.1,ah hb h.2.2.2.1,ah hb h.2.2.2.2⟩
theorem MH{zs:List Int}(h:∀i,0<=zs.getD i 0/\zs.getD i 0<18446744073709551616)(k:Nat):∀i,0<=(zs.drop k).getD i 0/\(zs.drop k).getD i 0<18446744073709551616:=λi=>by
 have:=h (k+i)
 simpa [List.getD]using this
theorem kV(b off S c pos:Nat)(ad:Option Addr)(p t:Int)(g:Bool)(zs:List Int)(w:World)(hS:S<1000)(had:0<S->ad=some ⟨b,off+(pos+1),none⟩)(hx:0<S->bC w b off (pos+1+S) zs)(hz:∀i,0<=zs.getD i 0/\zs.getD i 0<18446744073709551616):
  Calls Tryz.prog 73 #[.slice ad S c,.agg #[.int .i64 (pos:Int),.int .i64 (S:Int),.int .i64 p,.bool g,.int .u64 t]] w λe w'=>e=.returned (.int .i64 (if iK ⟨pos,S,p,g,t⟩ zs S=true then 0 else 3))/\Below w.heap.size w w':=by
 have hw:bC w b (off+(pos+1)) S (zs.drop (pos+1)):=by
  rcases Nat.eq_zero_or_pos S with h0|h0
  ·subst h0;exact bC.none _ _ _ _
  ·refine jH λi hi=> ?_
   have:=(hx h0).at (pos+1+i) (by omega)
   rw[show off+(pos+1)+i=off+(pos+1+i)from by omega,this]
   simp[List.getD]
 refine(PL b (off+(pos+1)) S c ad ⟨pos,S,p,g,t⟩ (zs.drop (pos+1)) w (by omega) had hw (MH hz _)).mono ?_
 rintro e w' ⟨h,hb⟩
 refine⟨?_,hb⟩
 rcases h with⟨h1,rfl⟩|⟨h1,rfl⟩
 ·rw[if_pos ((Ef pos S p t g zs).2 h1)]
 ·rw[if_neg (λq=>h1 ((Ef pos S p t g zs).1 q))]
theorem ng(S c pos:Nat)(ad:Option Addr)(p t:Int)(g:Bool)(zs:List Int)(w:World)(hS:S=0)(hz:∀i,0<=zs.getD i 0/\zs.getD i 0<18446744073709551616):
  Calls Tryz.prog 73 #[.slice ad 0 c,.agg #[.int .i64 (pos:Int),.int .i64 (S:Int),.int .i64 p,.bool g,.int .u64 t]] w λe w'=>e=.returned (.int .i64 (if iK ⟨pos,S,p,g,t⟩ zs S=true then 0 else 3))/\Below w.heap.size w w':=by
 subst hS
 exact kV 0 0 0 c pos ad p t g zs w (by omega) (λh=>by omega) (λh=>by omega) hz
theorem OJ{W:World}{B n:Nat}{v:Value}{acc:List Ob}(h:cu W B v acc)(hlt:∀j,v.ownBlock=some j->j<n)(x y:Value)(o:Obj)(i j:Nat):cu (((W.setCell ⟨n,i,none⟩ x).setCell ⟨n,j,none⟩ y).alloc o) B v acc:=by
 have g1:W.grownBy (W.setCell ⟨n,i,none⟩ x) (some n):=jr (nP _ _) _ (.inr rfl) _
 have g2:W.grownBy ((W.setCell ⟨n,i,none⟩ x).setCell ⟨n,j,none⟩ y) (some n):=jr g1 _ (.inr rfl) _
 have g3:=mQ g2 o
 refine OI h g3 ?_
 rcases hq:v.ownBlock with _|q
 ·exact .inl rfl
 ·refine .inr (λe=> ?_)
  cases e
  have:=hlt _ hq
  omega
set_option maxRecDepth 100000 in
set_option maxHeartbeats 3000000 in
theorem JA(b off len cap:Nat)(ad:Option Addr)(zs:List Int)(had:0<len->ad=some ⟨b,off,none⟩)(hlc:len<=cap)(hcap:cap<9223372036854775808)(hz:∀i,0<=zs.getD i 0/\zs.getD i 0<18446744073709551616)(w:World)(hW:bC w b off len zs)(hlen:len<1000000):
  Calls Tryz.prog 42 #[.slice ad len cap,.slice none 0 0,.bool false] w λe W'=>jk w.heap.size (aV oL zs len (len+1) 0 0 []) e W'/\Below w.heap.size w W':=by
 have HX:=Lib.hid hW
 have HZ:=Lib.hid hz
 have HA:=Lib.hid had
 have HCAP:=Lib.hid hcap
 clear hW hz had hcap
 go_enter Tryz.func42,Tryz.ntmps42
 go_wp2_with fail
 go_loopw [8,9,10] (λv tk i wr=>∃(k pos f:Nat)(acc:List Ob),tk=.int .i64 0/\i=.int .i64 pos/\pos<=len/\acc.length<=pos/\len-pos<f/\Hid (aV oL zs len (len+1) 0 0 []=aV oL zs len f k pos acc)/\Hid (cu wr w.heap.size v acc)/\Hid (Below w.heap.size w wr)) (λ_ _ i _=>len-(intOf i).toNat)
 case atStart=>exact⟨0,0,len+1,[],rfl,rfl,by omega,Nat.le_refl _,by omega,rfl,World.ownsRow_nil _ _ _ _,Below.refl _ _⟩
 case round=>
  obtain⟨k,pos,f,acc,rfl,rfl,hpl,hal,hf,hres,hown,hbw⟩:=hrel
  by_cases hlt:pos<len
  ·obtain rfl:=HA.out (by omega)
   obtain⟨f,rfl⟩:∃f',f=f'+1:=⟨f-1,by omega⟩
   have hres2:=Lib.hid (fC (bg:=oL) (zs:=zs) (f:=f) (k:=k) (acc:=acc) hlt)
   have hbl:b<w.heap.size:=HX.out.lt (by omega)
   have YW:=Lib.hid (HX.out.block (hbw.out.block b hbl))
   have hxk:=YW.out.at pos hlt
   have hbr:b<wr.heap.size:=YW.out.lt (by omega)
   have hb0:b≠wr.heap.size:=by omega
   have rU:=HZ.out pos
   have HN:Hid (oL k pos (zs.getD pos 0)=if jF (zs.getD pos 0)then some (⟨pos,rD (zs.getD pos 0),BL (zs.getD pos 0),false,0⟩,k)else none):=rfl
   generalize zs.getD pos 0=x at*
   go_wp2_with fail
   refine(iT x _ rU.1 rU.2).mono ?_;rintro e ww ⟨rfl,rfl⟩
   go_wp2_with fail
   rcases hu:jF x with _|_
   ·have KW:rE x=3:=by simp[rE,hu]
    have eF:Hid (aV oL zs len (len+1) 0 0 []=.err 3 k):=by show _=_;rw[hres.out,hres2.out,HN.out,hu];rfl
    refine(kK x _ rU.1 rU.2).mono ?_;rintro e w1 ⟨rfl,k1⟩
    rw[KW]
    go_wp2_with fail
    go_ret2
    refine⟨by rw[eF.out];rfl,?_⟩
    have:=hbw.out
    exact bm
   ·have KW:rE x=0:=by simp[rE,hu]
    obtain⟨hs0,hs1⟩:=rX hu
    have CG:Hid (oL k pos x=some (⟨pos,rD x,BL x,false,0⟩,k)):=by show _=_;rw[HN.out,hu];rfl
    refine(kK x _ rU.1 rU.2).mono ?_;rintro e w1 ⟨rfl,k1⟩
    rw[KW]
    have Ko:aj w1 wr.heap.size #[.int .i64 pos,.int .i64 0,.int .i64 0,.bool false,.int .u64 0] 58:=aj.tr (by exact bk) k1
    generalize rD x=sI at*
    obtain⟨S,rfl⟩:=Int.eq_ofNat_of_zero_le hs0
    generalize BL x=p at*
    obtain⟨lo,co,fo⟩:=Ko.get
    have H7:=hbw.out.size
    have hk1:Below wr.heap.size wr w1:=by exact bm
    go_upto_region 18 with(fail)
    have KX:aj (((w1.setCell ⟨wr.heap.size,1,none⟩ (.int .i64 (S:Int))).setCell ⟨wr.heap.size,2,none⟩ (.int .i64 p)).alloc (.cells #[.int .i64 (S:Int),.int .i64 p] 56)) wr.heap.size #[.int .i64 pos,.int .i64 (S:Int),.int .i64 p,.bool false,.int .u64 0] 58:=((Ko.set 1 (.int .i64 (S:Int))).set 2 (.int .i64 p)).alloc _
    have Eh:Hid (Below w.heap.size w (((w1.setCell ⟨wr.heap.size,1,none⟩ (.int .i64 (S:Int))).setCell ⟨wr.heap.size,2,none⟩ (.int .i64 p)).alloc (.cells #[.int .i64 (S:Int),.int .i64 p] 56))):=by
     have h0:=hbw.out
     have h1:Below w.heap.size w w1:=au h0 hk1
     exact gu (pV (pV h1 (by exact H7) _) (by exact H7) _) _
    have YX:Hid (cu (((w1.setCell ⟨wr.heap.size,1,none⟩ (.int .i64 (S:Int))).setCell ⟨wr.heap.size,2,none⟩ (.int .i64 p)).alloc (.cells #[.int .i64 (S:Int),.int .i64 p] 56)) w.heap.size u8 acc):=by
     exact OJ (iW hown.out hk1) (oI hown.out (Nat.le_refl _)) _ _ _ _ _
    have JB:Hid (∀j,u8.ownBlock=some j->j<wr.heap.size):=oI hown.out (Nat.le_refl _)
    have hN2:=CG
    clear hown hbw Ko k1 lo co fo hk1 hxk hb0 hbr YW
    generalize(((w1.setCell ⟨wr.heap.size,1,none⟩ (.int .i64 (S:Int))).setCell ⟨wr.heap.size,2,none⟩ (.int .i64 p)).alloc (.cells #[.int .i64 (S:Int),.int .i64 p] 56))=X at*
    generalize wr.heap.size=oB at*
    have Gg:=Lib.hid (show _/\_/\_/\_/\_ from⟨(KX.get.2.1 0),(KX.get.2.1 1),(KX.get.2.1 2),(KX.get.2.1 3),(KX.get.2.1 4)⟩)
    have hbX:b<X.heap.size:=Nat.lt_of_lt_of_le hbl Eh.out.size
    have HWX:=Lib.hid (HX.out.block (Eh.out.block b hbl))
    have hoX:=KX.lt
    obtain⟨lo,co,fo⟩:=KX.get
    by_cases hsh:len<pos+1+S
    ·have UU:(len:Int)<(pos:Int)+1+(S:Int):=by omega
     have eF:Hid (aV oL zs len (len+1) 0 0 []=.err 2 k):=by show _=_;rw[hres.out,hres2.out,CG.out];simp[hsh]
     go_wp2_with fail
     go_ret2
     refine⟨by rw[eF.out];rfl,?_⟩
     have:=Eh.out
     exact bm
    ·have UU:¬(len:Int)<(pos:Int)+1+(S:Int):=by omega
     have vW:S<1000:=by omega
     have i1:(0:Int)<=(pos:Int)+1:=by omega
     have i2:(pos:Int)+1<=(pos:Int)+1+(S:Int):=by omega
     have i3:(pos:Int)+1+(S:Int)<=(cap:Int):=by omega
     have i4:(pos:Int)+1<=(cap:Int):=by omega
     have n1:pos+1<=pos+1+S:=by omega
     have n2:pos+1+S<=cap:=by omega
     have JC:Hid (bC X b off (pos+1+S) zs):=jH λi hi=>HWX.out.at i (by omega)
     by_cases hcp:cap=pos+1
     ·have hS0:S=0:=by omega
      rcases hso:iK ⟨pos,S,p,false,0⟩ zs S with _|_
      ·have eF:Hid (aV oL zs len (len+1) 0 0 []=.err 3 k):=by show _=_;rw[hres.out,hres2.out,CG.out];simp[hsh,hso]
       go_upto_region 20 with(fail)
       have jQ:IntKind.i64.wrap ((pos:Int)+1)=(cap:Int):=by rw[fK _ (by omega)];omega
       have jR:IntKind.i64.wrap ((cap:Int)+(S:Int))=(cap:Int):=by rw[fK _ (by omega)];omega
       have HR:Hid (cap=pos+1+S):=by show _=_;omega
       have FW:=Lib.hid hS0
       clear i1 i2 i3 i4 n1 n2 hcp hS0
       go_region_held3 (λw'=>w'.cell? ⟨oB,0,none⟩=some (.int .i64 pos)/\w'.cell? ⟨oB,1,none⟩=some (.int .i64 S)/\w'.cell? ⟨oB,2,none⟩=some (.int .i64 p)/\w'.cell? ⟨oB,3,none⟩=some (.bool false)/\w'.cell? ⟨oB,4,none⟩=some (.int .u64 0))
        (first|(refine uS ?_ Gg.out;exact bm))
        (first|(go_at_call 73;refine(ng S 0 pos (some ⟨b,off,none⟩) p 0 false zs _ FW.out HZ.out).mono ?_;rintro e w6 ⟨rfl,k6⟩))
       have B6:Hid (Below w.heap.size w w6):=by
        have:=Eh.out
        show Below _ _ _
        exact bm
       clear k6
       go_wp2_with fail
       go_ret2
       exact⟨by rw[eF.out];rfl,B6.out⟩
      ·have eF:Hid (aV oL zs len (len+1) 0 0 []=aV oL zs len f k (pos+1+S) (acc++[⟨pos,S,p,false,0⟩])):=by show _=_;rw[hres.out,hres2.out,CG.out];simp[hsh,hso]
       go_upto_region 20 with(fail)
       have jQ:IntKind.i64.wrap ((pos:Int)+1)=(cap:Int):=by rw[fK _ (by omega)];omega
       have jR:IntKind.i64.wrap ((cap:Int)+(S:Int))=(cap:Int):=by rw[fK _ (by omega)];omega
       have HR:Hid (cap=pos+1+S):=by show _=_;omega
       have FW:=Lib.hid hS0
       clear i1 i2 i3 i4 n1 n2 hcp hS0
       go_region_held3 (λw'=>w'.cell? ⟨oB,0,none⟩=some (.int .i64 pos)/\w'.cell? ⟨oB,1,none⟩=some (.int .i64 S)/\w'.cell? ⟨oB,2,none⟩=some (.int .i64 p)/\w'.cell? ⟨oB,3,none⟩=some (.bool false)/\w'.cell? ⟨oB,4,none⟩=some (.int .u64 0))
        (first|(refine uS ?_ Gg.out;exact bm))
        (first|(go_at_call 73;refine(ng S 0 pos (some ⟨b,off,none⟩) p 0 false zs _ FW.out HZ.out).mono ?_;rintro e w6 ⟨rfl,k6⟩))
       have zO:Below X.heap.size X w6:=by exact bm
       have B6:Hid (Below w.heap.size w w6):=au Eh.out zO
       have yK:=Lib.hid (iW YX.out zO)
       have K6:=KX.tr zO
       have h86:Hid (∀j,u8.ownBlock=some j->j<w6.heap.size):=oI yK.out (Nat.le_refl _)
       have hs6:=B6.out.size
       clear k6 zO lo co fo Gg
       obtain⟨lo,co,fo⟩:=K6.get
       have hsrc:bT (w6.alloc (.cells #[.int .i64 (pos:Int),.int .i64 (S:Int),.int .i64 p,.bool false,.int .u64 0] 58)) (.slice (some ⟨w6.heap.size,0,none⟩) 1 1) [⟨(pos:Int),S,p,false,0⟩]:=sF _ [⟨(pos:Int),S,p,false,0⟩] w6.heap.size (aj.new _ _ _) (by simp)
       have vX:=Lib.hid hsrc
       clear hsrc
       go_wp2_with (at_builtin;refine sQ _ rfl _ _ rfl w.heap.size u8 (.slice (some ⟨w6.heap.size,0,none⟩) 1 1) acc [⟨(pos:Int),S,p,false,0⟩] rfl rfl (iW yK.out ((Below.refl _ _).alloc (Nat.le_refl _) _)) vX.out ?c0 ?c1 ?c2)
       case c0=>simp;omega
       case c1=>exact kM hs6
       case c2=>
       intro v7 w7 o7 Ei Ej
       have B7:Hid (Below w.heap.size w w7):=xM (B6.out.alloc hs6 _) yK.out Ei
       have O7:=Lib.hid o7
       have K7:=iV (K6.alloc (.cells #[.int .i64 (pos:Int),.int .i64 (S:Int),.int .i64 p,.bool false,.int .u64 0] 58)) Ei (λe=>by have:=JB.out _ e;omega)
       clear lo co fo K6 o7 Ei Ej yK vX
       obtain⟨lo,co,fo⟩:=K7.get
       go_wp2_with fail
       refine⟨⟨k,cap,f,acc++[(⟨(pos:Int),(S:Int),p,false,0⟩:Ob)],by first|rfl|go_num,by first|rfl|go_num,by have:=HR.out;omega,by have:=HR.out;simp;omega,by have:=HR.out;omega,?_,O7.out,B7.out⟩,?_⟩
       ·show _=_
        rw[HR.out]
        exact eF.out
       ·have:=HR.out
        simp[intOf];omega
     ·have hcp1:¬cap-(pos+1)=0:=by omega
      rcases hso:iK ⟨pos,S,p,false,0⟩ zs S with _|_
      ·have eF:Hid (aV oL zs len (len+1) 0 0 []=.err 3 k):=by show _=_;rw[hres.out,hres2.out,CG.out];simp[hsh,hso]
       go_upto_region 20 with(fail)
       obtain⟨Q,hQ⟩:∃Q,Q=pos+1:=⟨_,rfl⟩
       obtain⟨R,hR⟩:∃R,R=pos+1+S:=⟨_,rfl⟩
       have jQ:IntKind.i64.wrap ((pos:Int)+1)=(Q:Int):=by rw[hQ];rw[fK _ (by omega)];omega
       have jR:IntKind.i64.wrap ((Q:Int)+(S:Int))=(R:Int):=by rw[hQ,hR];rw[fK _ (by omega)];omega
       have qR:(R:Int)<=(cap:Int):=by omega
       have qR2:R<=cap:=by omega
       have qQ:(Q:Int)<=(R:Int):=by omega
       have qQ2:Q<=R:=by omega
       have qS:R-Q=S:=by omega
       have qC:¬cap=Q:=by omega
       have HQ:=Lib.hid hQ
       have HR:=Lib.hid hR
       clear hQ hR i1 i2 i3 i4 n1 n2 hcp hcp1
       go_region_held3 (λw'=>w'.cell? ⟨oB,0,none⟩=some (.int .i64 pos)/\w'.cell? ⟨oB,1,none⟩=some (.int .i64 S)/\w'.cell? ⟨oB,2,none⟩=some (.int .i64 p)/\w'.cell? ⟨oB,3,none⟩=some (.bool false)/\w'.cell? ⟨oB,4,none⟩=some (.int .u64 0))
        (first|(refine uS ?_ Gg.out;exact bm))
        (first|(go_at_call 73;refine(kV b off S (cap-Q) pos (some ⟨b,off+Q,none⟩) p 0 false zs _ vW ?_ ?_ HZ.out).mono ?_;(intro h0;rw[HQ.out]);(intro h0;refine bC.block JC.out ?_;refine Below.block (B:=X.heap.size) ?_ b hbX;exact bm);rintro e w6 ⟨rfl,k6⟩))
       have B6:Hid (Below w.heap.size w w6):=by
        have:=Eh.out
        show Below _ _ _
        exact bm
       clear k6
       go_wp2_with fail
       go_ret2
       exact⟨by rw[eF.out];rfl,B6.out⟩
      ·have eF:Hid (aV oL zs len (len+1) 0 0 []=aV oL zs len f k (pos+1+S) (acc++[⟨pos,S,p,false,0⟩])):=by show _=_;rw[hres.out,hres2.out,CG.out];simp[hsh,hso]
       go_upto_region 20 with(fail)
       obtain⟨Q,hQ⟩:∃Q,Q=pos+1:=⟨_,rfl⟩
       obtain⟨R,hR⟩:∃R,R=pos+1+S:=⟨_,rfl⟩
       have jQ:IntKind.i64.wrap ((pos:Int)+1)=(Q:Int):=by rw[hQ];rw[fK _ (by omega)];omega
       have jR:IntKind.i64.wrap ((Q:Int)+(S:Int))=(R:Int):=by rw[hQ,hR];rw[fK _ (by omega)];omega
       have qR:(R:Int)<=(cap:Int):=by omega
       have qR2:R<=cap:=by omega
       have qQ:(Q:Int)<=(R:Int):=by omega
       have qQ2:Q<=R:=by omega
       have qS:R-Q=S:=by omega
       have qC:¬cap=Q:=by omega
       have HQ:=Lib.hid hQ
       have HR:=Lib.hid hR
       clear hQ hR i1 i2 i3 i4 n1 n2 hcp hcp1
       go_region_held3 (λw'=>w'.cell? ⟨oB,0,none⟩=some (.int .i64 pos)/\w'.cell? ⟨oB,1,none⟩=some (.int .i64 S)/\w'.cell? ⟨oB,2,none⟩=some (.int .i64 p)/\w'.cell? ⟨oB,3,none⟩=some (.bool false)/\w'.cell? ⟨oB,4,none⟩=some (.int .u64 0))
        (first|(refine uS ?_ Gg.out;exact bm))
        (first|(go_at_call 73;refine(kV b off S (cap-Q) pos (some ⟨b,off+Q,none⟩) p 0 false zs _ vW ?_ ?_ HZ.out).mono ?_;(intro h0;rw[HQ.out]);(intro h0;refine bC.block JC.out ?_;refine Below.block (B:=X.heap.size) ?_ b hbX;exact bm);rintro e w6 ⟨rfl,k6⟩))
       have zO:Below X.heap.size X w6:=by exact bm
       have B6:Hid (Below w.heap.size w w6):=au Eh.out zO
       have yK:=Lib.hid (iW YX.out zO)
       have K6:=KX.tr zO
       have h86:Hid (∀j,u8.ownBlock=some j->j<w6.heap.size):=oI yK.out (Nat.le_refl _)
       have hs6:=B6.out.size
       clear k6 zO lo co fo Gg
       obtain⟨lo,co,fo⟩:=K6.get
       have hsrc:bT (w6.alloc (.cells #[.int .i64 (pos:Int),.int .i64 (S:Int),.int .i64 p,.bool false,.int .u64 0] 58)) (.slice (some ⟨w6.heap.size,0,none⟩) 1 1) [⟨(pos:Int),S,p,false,0⟩]:=sF _ [⟨(pos:Int),S,p,false,0⟩] w6.heap.size (aj.new _ _ _) (by simp)
       have vX:=Lib.hid hsrc
       clear hsrc
       go_wp2_with (at_builtin;refine sQ _ rfl _ _ rfl w.heap.size u8 (.slice (some ⟨w6.heap.size,0,none⟩) 1 1) acc [⟨(pos:Int),S,p,false,0⟩] rfl rfl (iW yK.out ((Below.refl _ _).alloc (Nat.le_refl _) _)) vX.out ?c0 ?c1 ?c2)
       case c0=>simp;omega
       case c1=>exact kM hs6
       case c2=>
       intro v7 w7 o7 Ei Ej
       have B7:Hid (Below w.heap.size w w7):=xM (B6.out.alloc hs6 _) yK.out Ei
       have O7:=Lib.hid o7
       have K7:=iV (K6.alloc (.cells #[.int .i64 (pos:Int),.int .i64 (S:Int),.int .i64 p,.bool false,.int .u64 0] 58)) Ei (λe=>by have:=JB.out _ e;omega)
       clear lo co fo K6 o7 Ei Ej yK vX
       obtain⟨lo,co,fo⟩:=K7.get
       go_wp2_with fail
       refine⟨⟨k,R,f,acc++[(⟨(pos:Int),(S:Int),p,false,0⟩:Ob)],by first|rfl|go_num,by first|rfl|go_num,by have:=HR.out;omega,by have:=HR.out;simp;omega,by have:=HR.out;omega,?_,O7.out,B7.out⟩,?_⟩
       ·show _=_
        rw[HR.out]
        exact eF.out
       ·have:=HR.out
        simp[intOf];omega
  ·obtain⟨f,rfl⟩:∃f',f=f'+1:=⟨f-1,by omega⟩
   have hres2:=Lib.hid (gQ (bg:=oL) (zs:=zs) (f:=f) (k:=k) (acc:=acc) hlt)
   obtain rfl:pos=len:=by omega
   go_wp2_with fail
   go_ret2
   exact⟨by rw[hres.out,hres2.out];exact⟨_,rfl,hown.out⟩,hbw.out⟩
end Go.Proofs.YtpgjploaliefdaaGreat.ob
namespace Go.Proofs.YtpgjploaliefdaaGreat.ob
open Go.RowKit hd
set_option linter.unusedVariables false
set_option linter.unusedSimpArgs false
theorem UW{W:World}{B n:Nat}{v:Value}{acc:List Ob}(h:cu W B v acc)(hlt:∀j,v.ownBlock=some j->j<n)(x y z u:Value)(i j k l:Nat):cu ((((W.setCell ⟨n,i,none⟩ x).setCell ⟨n,j,none⟩ y).setCell ⟨n,k,none⟩ z).setCell ⟨n,l,none⟩ u) B v acc:=by
 have g1:W.grownBy (W.setCell ⟨n,i,none⟩ x) (some n):=jr (nP _ _) _ (.inr rfl) _
 have g2:W.grownBy ((W.setCell ⟨n,i,none⟩ x).setCell ⟨n,j,none⟩ y) (some n):=jr g1 _ (.inr rfl) _
 have g3:W.grownBy (((W.setCell ⟨n,i,none⟩ x).setCell ⟨n,j,none⟩ y).setCell ⟨n,k,none⟩ z) (some n):=jr g2 _ (.inr rfl) _
 have g4:W.grownBy ((((W.setCell ⟨n,i,none⟩ x).setCell ⟨n,j,none⟩ y).setCell ⟨n,k,none⟩ z).setCell ⟨n,l,none⟩ u) (some n):=jr g3 _ (.inr rfl) _
 refine OI h g4 ?_
 rcases hq:v.ownBlock with _|q
 ·exact .inl rfl
 ·refine .inr (λe=> ?_)
  cases e
  have:=hlt _ hq
  omega
set_option maxRecDepth 100000 in
set_option maxHeartbeats 16000000 in
theorem JD(b off len cap:Nat)(ad:Option Addr)(zs:List Int)(had:0<len->ad=some ⟨b,off,none⟩)(hlc:len<=cap)(hcap:cap<9223372036854775808)(hz:∀i,0<=zs.getD i 0/\zs.getD i 0<18446744073709551616)
  (sb so n scap:Nat) (vJ:Option Addr) (ss:List (Int×Int)) (TQ:0<n->vJ=some ⟨sb,so,none⟩) (hn:n<1000000) (w:World) (hW:bC w b off len zs) (hS:cZ w sb so n ss) (hlen:len<1000000):
  Calls Tryz.prog 42 #[.slice ad len cap,.slice vJ n scap,.bool true] w λe W'=>jk w.heap.size (jv n (aV (jP n ss) zs len (len+1) 0 0 [])) e W'/\Below w.heap.size w W':=by
 have HX:=Lib.hid hW
 have HSH:=Lib.hid hS
 have HZ:=Lib.hid hz
 have HA:=Lib.hid had
 have Zz:=Lib.hid TQ
 have HCAP:=Lib.hid hcap
 clear hW hz had hcap hS TQ
 go_enter Tryz.func42,Tryz.ntmps42
 go_wp2_with fail
 go_loopw [8,9,10] (λv tk i wr=>∃(k pos f:Nat)(acc:List Ob),tk=.int .i64 (k:Int)/\i=.int .i64 pos/\(pos<=len/\k<=n)/\acc.length<=pos/\len-pos<f/\Hid (aV (jP n ss) zs len (len+1) 0 0 []=aV (jP n ss) zs len f k pos acc)/\Hid (cu wr w.heap.size v acc)/\Hid (Below w.heap.size w wr)) (λ_ _ i _=>len-(intOf i).toNat)
 case atStart=>exact⟨0,0,len+1,[],rfl,rfl,by omega,Nat.le_refl _,by omega,rfl,World.ownsRow_nil _ _ _ _,Below.refl _ _⟩
 case round=>
  obtain⟨k,pos,f,acc,rfl,rfl,⟨hpl,hkn⟩,hal,hf,hres,hown,hbw⟩:=hrel
  by_cases hlt:pos<len
  ·obtain rfl:=HA.out (by omega)
   obtain⟨f,rfl⟩:∃f',f=f'+1:=⟨f-1,by omega⟩
   have hres2:=Lib.hid (fC (bg:=jP n ss) (zs:=zs) (f:=f) (k:=k) (acc:=acc) hlt)
   have hbl:b<w.heap.size:=HX.out.lt (by omega)
   have YW:=Lib.hid (HX.out.block (hbw.out.block b hbl))
   have hxk:=YW.out.at pos hlt
   have hbr:b<wr.heap.size:=YW.out.lt (by omega)
   have hb0:b≠wr.heap.size:=by omega
   have rU:=HZ.out pos
   have H7:=hbw.out.size
   generalize zs.getD pos 0=x at*
   by_cases hE0:mD x=0
   ·by_cases hkl:k<n
    ·obtain rfl:=Zz.out (by omega)
     have agD:sb<w.heap.size:=HSH.out.lt (by omega)
     obtain⟨s0,s1⟩:=(HSH.out.block (hbw.out.block sb agD)).at k hkl
     have hsb0:sb≠wr.heap.size:=by omega
     have agE:sb<wr.heap.size:=by omega
     have HN:Hid (jP n ss k pos x=if k<n/\bJ (ss.getD k (0,0)).1 (ss.getD k (0,0)).2=true then some (⟨pos,(ss.getD k (0,0)).1,(ss.getD k (0,0)).2,true,gB x⟩,k+1)else none):=by show jP n ss k pos x=_;unfold jP;rw[if_pos hE0]
     generalize(ss.getD k (0,0)).1=sI at*
     generalize(ss.getD k (0,0)).2=p at*
     have agF:((k:Int)==(n:Int))=false:=beq_eq_false_iff_ne.mpr (by omega)
     have hE2:(mD x==0)=true:=by simp[hE0]
     go_wp2_with fail
     refine(iT x _ rU.1 rU.2).mono ?_;rintro e ww ⟨rfl,rfl⟩
     go_wp2_with fail
     refine(pF sI p _).mono ?_;rintro e w1 ⟨rfl,k1⟩
     have Ko:aj w1 wr.heap.size #[.int .i64 pos,.int .i64 0,.int .i64 0,.bool false,.int .u64 0] 58:=aj.tr (by exact bk) k1
     have hk1:Below wr.heap.size wr w1:=by exact bm
     rcases hrb:bJ sI p with _|_
     ·have eF:Hid (aV (jP n ss) zs len (len+1) 0 0 []=.err 3 k):=by show _=_;rw[hres.out,hres2.out,HN.out,hrb];simp
      go_wp2_with fail
      go_ret2
      refine⟨by rw[eF.out];rfl,?_⟩
      have:=hbw.out
      exact au this hk1
     ·obtain⟨hs0,hs1,_,_⟩:=kJ hrb
      obtain⟨S,rfl⟩:=Int.eq_ofNat_of_zero_le hs0
      have CG:Hid (jP n ss k pos x=some (⟨pos,S,p,true,gB x⟩,k+1)):=by show _=_;rw[HN.out,if_pos ⟨hkl,hrb⟩]
      have t0:=ah hk1 s0
      have t1:=ah hk1 s1
      have agG:sb<w1.heap.size:=by have:=hk1.size;omega
      obtain⟨lo,co,fo⟩:=Ko.get
      go_upto_region 18 with(fail)
      have KX:aj ((((w1.setCell ⟨wr.heap.size,3,none⟩ (.bool true)).setCell ⟨wr.heap.size,4,none⟩ (.int .u64 (gB x))).setCell ⟨wr.heap.size,1,none⟩ (.int .i64 (S:Int))).setCell ⟨wr.heap.size,2,none⟩ (.int .i64 p)) wr.heap.size #[.int .i64 pos,.int .i64 (S:Int),.int .i64 p,.bool true,.int .u64 (gB x)] 58:=(((Ko.set 3 (.bool true)).set 4 (.int .u64 (gB x))).set 1 (.int .i64 (S:Int))).set 2 (.int .i64 p)
      have Eh:Hid (Below w.heap.size w ((((w1.setCell ⟨wr.heap.size,3,none⟩ (.bool true)).setCell ⟨wr.heap.size,4,none⟩ (.int .u64 (gB x))).setCell ⟨wr.heap.size,1,none⟩ (.int .i64 (S:Int))).setCell ⟨wr.heap.size,2,none⟩ (.int .i64 p))):=by
       have h0:=hbw.out
       have h1:Below w.heap.size w w1:=au h0 hk1
       exact pV (pV (pV (pV h1 (by exact H7) _) (by exact H7) _) (by exact H7) _) (by exact H7) _
      have YX:Hid (cu ((((w1.setCell ⟨wr.heap.size,3,none⟩ (.bool true)).setCell ⟨wr.heap.size,4,none⟩ (.int .u64 (gB x))).setCell ⟨wr.heap.size,1,none⟩ (.int .i64 (S:Int))).setCell ⟨wr.heap.size,2,none⟩ (.int .i64 p)) w.heap.size u8 acc):=UW (iW hown.out hk1) (oI hown.out (Nat.le_refl _)) _ _ _ _ _ _ _ _
      have JB:Hid (∀j,u8.ownBlock=some j->j<wr.heap.size):=oI hown.out (Nat.le_refl _)
      clear hown hbw Ko k1 lo co fo hk1 hxk hb0 hbr YW t0 t1 s0 s1 agG hsb0 agE HN hE2 agF
      generalize((((w1.setCell ⟨wr.heap.size,3,none⟩ (.bool true)).setCell ⟨wr.heap.size,4,none⟩ (.int .u64 (gB x))).setCell ⟨wr.heap.size,1,none⟩ (.int .i64 (S:Int))).setCell ⟨wr.heap.size,2,none⟩ (.int .i64 p))=X at*
      generalize wr.heap.size=oB at*
      generalize gB x=tt at*
      have Gg:=Lib.hid (show _/\_/\_/\_/\_ from⟨(KX.get.2.1 0),(KX.get.2.1 1),(KX.get.2.1 2),(KX.get.2.1 3),(KX.get.2.1 4)⟩)
      have hbX:b<X.heap.size:=Nat.lt_of_lt_of_le hbl Eh.out.size
      have HWX:=Lib.hid (HX.out.block (Eh.out.block b hbl))
      have hoX:=KX.lt
      obtain⟨lo,co,fo⟩:=KX.get
      by_cases hsh:len<pos+1+S
      ·have UU:(len:Int)<(pos:Int)+1+(S:Int):=by omega
       have eF:Hid (aV (jP n ss) zs len (len+1) 0 0 []=.err 2 (k+1)):=by show _=_;rw[hres.out,hres2.out,CG.out];simp[hsh]
       go_wp2_with fail
       go_ret2
       refine⟨by rw[eF.out];rfl,?_⟩
       have:=Eh.out
       exact bm
      ·have UU:¬(len:Int)<(pos:Int)+1+(S:Int):=by omega
       have vW:S<1000:=by omega
       have i1:(0:Int)<=(pos:Int)+1:=by omega
       have i2:(pos:Int)+1<=(pos:Int)+1+(S:Int):=by omega
       have i3:(pos:Int)+1+(S:Int)<=(cap:Int):=by omega
       have i4:(pos:Int)+1<=(cap:Int):=by omega
       have n1:pos+1<=pos+1+S:=by omega
       have n2:pos+1+S<=cap:=by omega
       have JC:Hid (bC X b off (pos+1+S) zs):=jH λi hi=>HWX.out.at i (by omega)
       by_cases hcp:cap=pos+1
       ·have hS0:S=0:=by omega
        rcases hso:iK ⟨pos,S,p,true,tt⟩ zs S with _|_
        ·have eF:Hid (aV (jP n ss) zs len (len+1) 0 0 []=.err 3 (k+1)):=by show _=_;rw[hres.out,hres2.out,CG.out];simp[hsh,hso]
         go_upto_region 20 with(fail)
         have jQ:IntKind.i64.wrap ((pos:Int)+1)=(cap:Int):=by rw[fK _ (by omega)];omega
         have jR:IntKind.i64.wrap ((cap:Int)+(S:Int))=(cap:Int):=by rw[fK _ (by omega)];omega
         have HR:Hid (cap=pos+1+S):=by show _=_;omega
         have FW:=Lib.hid hS0
         clear i1 i2 i3 i4 n1 n2 hcp hS0
         go_region_held3 (λw'=>w'.cell? ⟨oB,0,none⟩=some (.int .i64 pos)/\w'.cell? ⟨oB,1,none⟩=some (.int .i64 S)/\w'.cell? ⟨oB,2,none⟩=some (.int .i64 p)/\w'.cell? ⟨oB,3,none⟩=some (.bool true)/\w'.cell? ⟨oB,4,none⟩=some (.int .u64 tt))
          (first|(refine uS ?_ Gg.out;exact bm))
          (first|(go_at_call 73;refine(ng S 0 pos (some ⟨b,off,none⟩) p tt true zs _ FW.out HZ.out).mono ?_;rintro e w6 ⟨rfl,k6⟩))
         have B6:Hid (Below w.heap.size w w6):=by
          have:=Eh.out
          show Below _ _ _
          exact bm
         clear k6
         go_wp2_with fail
         go_ret2
         exact⟨by rw[eF.out];rfl,B6.out⟩
        ·have eF:Hid (aV (jP n ss) zs len (len+1) 0 0 []=aV (jP n ss) zs len f (k+1) (pos+1+S) (acc++[⟨pos,S,p,true,tt⟩])):=by show _=_;rw[hres.out,hres2.out,CG.out];simp[hsh,hso]
         go_upto_region 20 with(fail)
         have jQ:IntKind.i64.wrap ((pos:Int)+1)=(cap:Int):=by rw[fK _ (by omega)];omega
         have jR:IntKind.i64.wrap ((cap:Int)+(S:Int))=(cap:Int):=by rw[fK _ (by omega)];omega
         have HR:Hid (cap=pos+1+S):=by show _=_;omega
         have FW:=Lib.hid hS0
         clear i1 i2 i3 i4 n1 n2 hcp hS0
         go_region_held3 (λw'=>w'.cell? ⟨oB,0,none⟩=some (.int .i64 pos)/\w'.cell? ⟨oB,1,none⟩=some (.int .i64 S)/\w'.cell? ⟨oB,2,none⟩=some (.int .i64 p)/\w'.cell? ⟨oB,3,none⟩=some (.bool true)/\w'.cell? ⟨oB,4,none⟩=some (.int .u64 tt))
          (first|(refine uS ?_ Gg.out;exact bm))
          (first|(go_at_call 73;refine(ng S 0 pos (some ⟨b,off,none⟩) p tt true zs _ FW.out HZ.out).mono ?_;rintro e w6 ⟨rfl,k6⟩))
         have zO:Below X.heap.size X w6:=by exact bm
         have B6:Hid (Below w.heap.size w w6):=au Eh.out zO
         have yK:=Lib.hid (iW YX.out zO)
         have K6:=KX.tr zO
         have h86:Hid (∀j,u8.ownBlock=some j->j<w6.heap.size):=oI yK.out (Nat.le_refl _)
         have hs6:=B6.out.size
         clear k6 zO lo co fo Gg
         obtain⟨lo,co,fo⟩:=K6.get
         have hsrc:bT (w6.alloc (.cells #[.int .i64 (pos:Int),.int .i64 (S:Int),.int .i64 p,.bool true,.int .u64 tt] 58)) (.slice (some ⟨w6.heap.size,0,none⟩) 1 1) [⟨(pos:Int),S,p,true,tt⟩]:=sF _ [⟨(pos:Int),S,p,true,tt⟩] w6.heap.size (aj.new _ _ _) (by simp)
         have vX:=Lib.hid hsrc
         clear hsrc
         go_wp2_with (at_builtin;refine sQ _ rfl _ _ rfl w.heap.size u8 (.slice (some ⟨w6.heap.size,0,none⟩) 1 1) acc [⟨(pos:Int),S,p,true,tt⟩] rfl rfl (iW yK.out ((Below.refl _ _).alloc (Nat.le_refl _) _)) vX.out ?c0 ?c1 ?c2)
         case c0=>simp;omega
         case c1=>exact kM hs6
         case c2=>
         intro v7 w7 o7 Ei Ej
         have B7:Hid (Below w.heap.size w w7):=xM (B6.out.alloc hs6 _) yK.out Ei
         have O7:=Lib.hid o7
         have K7:=iV (K6.alloc (.cells #[.int .i64 (pos:Int),.int .i64 (S:Int),.int .i64 p,.bool true,.int .u64 tt] 58)) Ei (λe=>by have:=JB.out _ e;omega)
         clear lo co fo K6 o7 Ei Ej yK vX
         obtain⟨lo,co,fo⟩:=K7.get
         go_wp2_with fail
         refine⟨⟨(k+1),cap,f,acc++[(⟨(pos:Int),(S:Int),p,true,tt⟩:Ob)],by first|rfl|go_num,by first|rfl|go_num,by have:=HR.out;omega,by have:=HR.out;simp;omega,by have:=HR.out;omega,?_,O7.out,B7.out⟩,?_⟩
         ·show _=_
          rw[HR.out]
          exact eF.out
         ·have:=HR.out
          simp[intOf];omega
       ·have hcp1:¬cap-(pos+1)=0:=by omega
        rcases hso:iK ⟨pos,S,p,true,tt⟩ zs S with _|_
        ·have eF:Hid (aV (jP n ss) zs len (len+1) 0 0 []=.err 3 (k+1)):=by show _=_;rw[hres.out,hres2.out,CG.out];simp[hsh,hso]
         go_upto_region 20 with(fail)
         obtain⟨Q,hQ⟩:∃Q,Q=pos+1:=⟨_,rfl⟩
         obtain⟨R,hR⟩:∃R,R=pos+1+S:=⟨_,rfl⟩
         have jQ:IntKind.i64.wrap ((pos:Int)+1)=(Q:Int):=by rw[hQ];rw[fK _ (by omega)];omega
         have jR:IntKind.i64.wrap ((Q:Int)+(S:Int))=(R:Int):=by rw[hQ,hR];rw[fK _ (by omega)];omega
         have qR:(R:Int)<=(cap:Int):=by omega
         have qR2:R<=cap:=by omega
         have qQ:(Q:Int)<=(R:Int):=by omega
         have qQ2:Q<=R:=by omega
         have qS:R-Q=S:=by omega
         have qC:¬cap=Q:=by omega
         have HQ:=Lib.hid hQ
         have HR:=Lib.hid hR
         clear hQ hR i1 i2 i3 i4 n1 n2 hcp hcp1
         go_region_held3 (λw'=>w'.cell? ⟨oB,0,none⟩=some (.int .i64 pos)/\w'.cell? ⟨oB,1,none⟩=some (.int .i64 S)/\w'.cell? ⟨oB,2,none⟩=some (.int .i64 p)/\w'.cell? ⟨oB,3,none⟩=some (.bool true)/\w'.cell? ⟨oB,4,none⟩=some (.int .u64 tt))
          (first|(refine uS ?_ Gg.out;exact bm))
          (first|(go_at_call 73;refine(kV b off S (cap-Q) pos (some ⟨b,off+Q,none⟩) p tt true zs _ vW ?_ ?_ HZ.out).mono ?_;(intro h0;rw[HQ.out]);(intro h0;refine bC.block JC.out ?_;refine Below.block (B:=X.heap.size) ?_ b hbX;exact bm);rintro e w6 ⟨rfl,k6⟩))
         have B6:Hid (Below w.heap.size w w6):=by
          have:=Eh.out
          show Below _ _ _
          exact bm
         clear k6
         go_wp2_with fail
         go_ret2
         exact⟨by rw[eF.out];rfl,B6.out⟩
        ·have eF:Hid (aV (jP n ss) zs len (len+1) 0 0 []=aV (jP n ss) zs len f (k+1) (pos+1+S) (acc++[⟨pos,S,p,true,tt⟩])):=by show _=_;rw[hres.out,hres2.out,CG.out];simp[hsh,hso]
         go_upto_region 20 with(fail)
         obtain⟨Q,hQ⟩:∃Q,Q=pos+1:=⟨_,rfl⟩
         obtain⟨R,hR⟩:∃R,R=pos+1+S:=⟨_,rfl⟩
         have jQ:IntKind.i64.wrap ((pos:Int)+1)=(Q:Int):=by rw[hQ];rw[fK _ (by omega)];omega
         have jR:IntKind.i64.wrap ((Q:Int)+(S:Int))=(R:Int):=by rw[hQ,hR];rw[fK _ (by omega)];omega
         have qR:(R:Int)<=(cap:Int):=by omega
         have qR2:R<=cap:=by omega
         have qQ:(Q:Int)<=(R:Int):=by omega
         have qQ2:Q<=R:=by omega
         have qS:R-Q=S:=by omega
         have qC:¬cap=Q:=by omega
         have HQ:=Lib.hid hQ
         have HR:=Lib.hid hR
         clear hQ hR i1 i2 i3 i4 n1 n2 hcp hcp1
         go_region_held3 (λw'=>w'.cell? ⟨oB,0,none⟩=some (.int .i64 pos)/\w'.cell? ⟨oB,1,none⟩=some (.int .i64 S)/\w'.cell? ⟨oB,2,none⟩=some (.int .i64 p)/\w'.cell? ⟨oB,3,none⟩=some (.bool true)/\w'.cell? ⟨oB,4,none⟩=some (.int .u64 tt))
          (first|(refine uS ?_ Gg.out;exact bm))
          (first|(go_at_call 73;refine(kV b off S (cap-Q) pos (some ⟨b,off+Q,none⟩) p tt true zs _ vW ?_ ?_ HZ.out).mono ?_;(intro h0;rw[HQ.out]);(intro h0;refine bC.block JC.out ?_;refine Below.block (B:=X.heap.size) ?_ b hbX;exact bm);rintro e w6 ⟨rfl,k6⟩))
         have zO:Below X.heap.size X w6:=by exact bm
         have B6:Hid (Below w.heap.size w w6):=au Eh.out zO
         have yK:=Lib.hid (iW YX.out zO)
         have K6:=KX.tr zO
         have h86:Hid (∀j,u8.ownBlock=some j->j<w6.heap.size):=oI yK.out (Nat.le_refl _)
         have hs6:=B6.out.size
         clear k6 zO lo co fo Gg
         obtain⟨lo,co,fo⟩:=K6.get
         have hsrc:bT (w6.alloc (.cells #[.int .i64 (pos:Int),.int .i64 (S:Int),.int .i64 p,.bool true,.int .u64 tt] 58)) (.slice (some ⟨w6.heap.size,0,none⟩) 1 1) [⟨(pos:Int),S,p,true,tt⟩]:=sF _ [⟨(pos:Int),S,p,true,tt⟩] w6.heap.size (aj.new _ _ _) (by simp)
         have vX:=Lib.hid hsrc
         clear hsrc
         go_wp2_with (at_builtin;refine sQ _ rfl _ _ rfl w.heap.size u8 (.slice (some ⟨w6.heap.size,0,none⟩) 1 1) acc [⟨(pos:Int),S,p,true,tt⟩] rfl rfl (iW yK.out ((Below.refl _ _).alloc (Nat.le_refl _) _)) vX.out ?c0 ?c1 ?c2)
         case c0=>simp;omega
         case c1=>exact kM hs6
         case c2=>
         intro v7 w7 o7 Ei Ej
         have B7:Hid (Below w.heap.size w w7):=xM (B6.out.alloc hs6 _) yK.out Ei
         have O7:=Lib.hid o7
         have K7:=iV (K6.alloc (.cells #[.int .i64 (pos:Int),.int .i64 (S:Int),.int .i64 p,.bool true,.int .u64 tt] 58)) Ei (λe=>by have:=JB.out _ e;omega)
         clear lo co fo K6 o7 Ei Ej yK vX
         obtain⟨lo,co,fo⟩:=K7.get
         go_wp2_with fail
         refine⟨⟨(k+1),R,f,acc++[(⟨(pos:Int),(S:Int),p,true,tt⟩:Ob)],by first|rfl|go_num,by first|rfl|go_num,by have:=HR.out;omega,by have:=HR.out;simp;omega,by have:=HR.out;omega,?_,O7.out,B7.out⟩,?_⟩
         ·show _=_
          rw[HR.out]
          exact eF.out
         ·have:=HR.out
          simp[intOf];omega
    ·obtain rfl:k=n:=by omega
     have HN:Hid (jP k ss k pos x=none):=by show _=_;unfold jP;rw[if_pos hE0,if_neg (by omega)]
     have eF:Hid (aV (jP k ss) zs len (len+1) 0 0 []=.err 3 k):=by show _=_;rw[hres.out,hres2.out,HN.out]
     have hE2:(mD x==0)=true:=by simp[hE0]
     go_wp2_with fail
     refine(iT x _ rU.1 rU.2).mono ?_;rintro e ww ⟨rfl,rfl⟩
     go_wp2_with fail
     go_ret2
     refine⟨by rw[eF.out];rfl,?_⟩
     have:=hbw.out
     exact bm
   ·have hE2:(mD x==0)=false:=by simp[hE0]
    have HN:Hid (jP n ss k pos x=if jF x then some (⟨pos,rD x,BL x,false,0⟩,k)else none):=by show jP n ss k pos x=_;unfold jP;rw[if_neg hE0];rfl
    go_wp2_with fail
    refine(iT x _ rU.1 rU.2).mono ?_;rintro e ww ⟨rfl,rfl⟩
    go_wp2_with fail
    rcases hu:jF x with _|_
    ·have KW:rE x=3:=by simp[rE,hu]
     have eF:Hid (aV (jP n ss) zs len (len+1) 0 0 []=.err 3 k):=by show _=_;rw[hres.out,hres2.out,HN.out,hu];rfl
     refine(kK x _ rU.1 rU.2).mono ?_;rintro e w1 ⟨rfl,k1⟩
     rw[KW]
     go_wp2_with fail
     go_ret2
     refine⟨by rw[eF.out];rfl,?_⟩
     have:=hbw.out
     exact bm
    ·have KW:rE x=0:=by simp[rE,hu]
     obtain⟨hs0,hs1⟩:=rX hu
     have CG:Hid (jP n ss k pos x=some (⟨pos,rD x,BL x,false,0⟩,k)):=by show _=_;rw[HN.out,hu];rfl
     refine(kK x _ rU.1 rU.2).mono ?_;rintro e w1 ⟨rfl,k1⟩
     rw[KW]
     have Ko:aj w1 wr.heap.size #[.int .i64 pos,.int .i64 0,.int .i64 0,.bool false,.int .u64 0] 58:=aj.tr (by exact bk) k1
     generalize rD x=sI at*
     obtain⟨S,rfl⟩:=Int.eq_ofNat_of_zero_le hs0
     generalize BL x=p at*
     obtain⟨lo,co,fo⟩:=Ko.get
     have hk1:Below wr.heap.size wr w1:=by exact bm
     go_upto_region 18 with(fail)
     have KX:aj (((w1.setCell ⟨wr.heap.size,1,none⟩ (.int .i64 (S:Int))).setCell ⟨wr.heap.size,2,none⟩ (.int .i64 p)).alloc (.cells #[.int .i64 (S:Int),.int .i64 p] 56)) wr.heap.size #[.int .i64 pos,.int .i64 (S:Int),.int .i64 p,.bool false,.int .u64 0] 58:=((Ko.set 1 (.int .i64 (S:Int))).set 2 (.int .i64 p)).alloc _
     have Eh:Hid (Below w.heap.size w (((w1.setCell ⟨wr.heap.size,1,none⟩ (.int .i64 (S:Int))).setCell ⟨wr.heap.size,2,none⟩ (.int .i64 p)).alloc (.cells #[.int .i64 (S:Int),.int .i64 p] 56))):=by
      have h0:=hbw.out
      have h1:Below w.heap.size w w1:=au h0 hk1
      exact gu (pV (pV h1 (by exact H7) _) (by exact H7) _) _
     have YX:Hid (cu (((w1.setCell ⟨wr.heap.size,1,none⟩ (.int .i64 (S:Int))).setCell ⟨wr.heap.size,2,none⟩ (.int .i64 p)).alloc (.cells #[.int .i64 (S:Int),.int .i64 p] 56)) w.heap.size u8 acc):=OJ (iW hown.out hk1) (oI hown.out (Nat.le_refl _)) _ _ _ _ _
     have JB:Hid (∀j,u8.ownBlock=some j->j<wr.heap.size):=oI hown.out (Nat.le_refl _)
     clear hown hbw Ko k1 lo co fo hk1 hxk hb0 hbr YW hE0 hE2
     generalize(((w1.setCell ⟨wr.heap.size,1,none⟩ (.int .i64 (S:Int))).setCell ⟨wr.heap.size,2,none⟩ (.int .i64 p)).alloc (.cells #[.int .i64 (S:Int),.int .i64 p] 56))=X at*
     generalize wr.heap.size=oB at*
     have Gg:=Lib.hid (show _/\_/\_/\_/\_ from⟨(KX.get.2.1 0),(KX.get.2.1 1),(KX.get.2.1 2),(KX.get.2.1 3),(KX.get.2.1 4)⟩)
     have hbX:b<X.heap.size:=Nat.lt_of_lt_of_le hbl Eh.out.size
     have HWX:=Lib.hid (HX.out.block (Eh.out.block b hbl))
     have hoX:=KX.lt
     obtain⟨lo,co,fo⟩:=KX.get
     by_cases hsh:len<pos+1+S
     ·have UU:(len:Int)<(pos:Int)+1+(S:Int):=by omega
      have eF:Hid (aV (jP n ss) zs len (len+1) 0 0 []=.err 2 k):=by show _=_;rw[hres.out,hres2.out,CG.out];simp[hsh]
      go_wp2_with fail
      go_ret2
      refine⟨by rw[eF.out];rfl,?_⟩
      have:=Eh.out
      exact bm
     ·have UU:¬(len:Int)<(pos:Int)+1+(S:Int):=by omega
      have vW:S<1000:=by omega
      have i1:(0:Int)<=(pos:Int)+1:=by omega
      have i2:(pos:Int)+1<=(pos:Int)+1+(S:Int):=by omega
      have i3:(pos:Int)+1+(S:Int)<=(cap:Int):=by omega
      have i4:(pos:Int)+1<=(cap:Int):=by omega
      have n1:pos+1<=pos+1+S:=by omega
      have n2:pos+1+S<=cap:=by omega
      have JC:Hid (bC X b off (pos+1+S) zs):=jH λi hi=>HWX.out.at i (by omega)
      by_cases hcp:cap=pos+1
      ·have hS0:S=0:=by omega
       rcases hso:iK ⟨pos,S,p,false,0⟩ zs S with _|_
       ·have eF:Hid (aV (jP n ss) zs len (len+1) 0 0 []=.err 3 k):=by show _=_;rw[hres.out,hres2.out,CG.out];simp[hsh,hso]
        go_upto_region 20 with(fail)
        have jQ:IntKind.i64.wrap ((pos:Int)+1)=(cap:Int):=by rw[fK _ (by omega)];omega
        have jR:IntKind.i64.wrap ((cap:Int)+(S:Int))=(cap:Int):=by rw[fK _ (by omega)];omega
        have HR:Hid (cap=pos+1+S):=by show _=_;omega
        have FW:=Lib.hid hS0
        clear i1 i2 i3 i4 n1 n2 hcp hS0
        go_region_held3 (λw'=>w'.cell? ⟨oB,0,none⟩=some (.int .i64 pos)/\w'.cell? ⟨oB,1,none⟩=some (.int .i64 S)/\w'.cell? ⟨oB,2,none⟩=some (.int .i64 p)/\w'.cell? ⟨oB,3,none⟩=some (.bool false)/\w'.cell? ⟨oB,4,none⟩=some (.int .u64 0))
         (first|(refine uS ?_ Gg.out;exact bm))
         (first|(go_at_call 73;refine(ng S 0 pos (some ⟨b,off,none⟩) p 0 false zs _ FW.out HZ.out).mono ?_;rintro e w6 ⟨rfl,k6⟩))
        have B6:Hid (Below w.heap.size w w6):=by
         have:=Eh.out
         show Below _ _ _
         exact bm
        clear k6
        go_wp2_with fail
        go_ret2
        exact⟨by rw[eF.out];rfl,B6.out⟩
       ·have eF:Hid (aV (jP n ss) zs len (len+1) 0 0 []=aV (jP n ss) zs len f k (pos+1+S) (acc++[⟨pos,S,p,false,0⟩])):=by show _=_;rw[hres.out,hres2.out,CG.out];simp[hsh,hso]
        go_upto_region 20 with(fail)
        have jQ:IntKind.i64.wrap ((pos:Int)+1)=(cap:Int):=by rw[fK _ (by omega)];omega
        have jR:IntKind.i64.wrap ((cap:Int)+(S:Int))=(cap:Int):=by rw[fK _ (by omega)];omega
        have HR:Hid (cap=pos+1+S):=by show _=_;omega
        have FW:=Lib.hid hS0
        clear i1 i2 i3 i4 n1 n2 hcp hS0
        go_region_held3 (λw'=>w'.cell? ⟨oB,0,none⟩=some (.int .i64 pos)/\w'.cell? ⟨oB,1,none⟩=some (.int .i64 S)/\w'.cell? ⟨oB,2,none⟩=some (.int .i64 p)/\w'.cell? ⟨oB,3,none⟩=some (.bool false)/\w'.cell? ⟨oB,4,none⟩=some (.int .u64 0))
         (first|(refine uS ?_ Gg.out;exact bm))
         (first|(go_at_call 73;refine(ng S 0 pos (some ⟨b,off,none⟩) p 0 false zs _ FW.out HZ.out).mono ?_;rintro e w6 ⟨rfl,k6⟩))
        have zO:Below X.heap.size X w6:=by exact bm
        have B6:Hid (Below w.heap.size w w6):=au Eh.out zO
        have yK:=Lib.hid (iW YX.out zO)
        have K6:=KX.tr zO
        have h86:Hid (∀j,u8.ownBlock=some j->j<w6.heap.size):=oI yK.out (Nat.le_refl _)
        have hs6:=B6.out.size
        clear k6 zO lo co fo Gg
        obtain⟨lo,co,fo⟩:=K6.get
        have hsrc:bT (w6.alloc (.cells #[.int .i64 (pos:Int),.int .i64 (S:Int),.int .i64 p,.bool false,.int .u64 0] 58)) (.slice (some ⟨w6.heap.size,0,none⟩) 1 1) [⟨(pos:Int),S,p,false,0⟩]:=sF _ [⟨(pos:Int),S,p,false,0⟩] w6.heap.size (aj.new _ _ _) (by simp)
        have vX:=Lib.hid hsrc
        clear hsrc
        go_wp2_with (at_builtin;refine sQ _ rfl _ _ rfl w.heap.size u8 (.slice (some ⟨w6.heap.size,0,none⟩) 1 1) acc [⟨(pos:Int),S,p,false,0⟩] rfl rfl (iW yK.out ((Below.refl _ _).alloc (Nat.le_refl _) _)) vX.out ?c0 ?c1 ?c2)
        case c0=>simp;omega
        case c1=>exact kM hs6
        case c2=>
        intro v7 w7 o7 Ei Ej
        have B7:Hid (Below w.heap.size w w7):=xM (B6.out.alloc hs6 _) yK.out Ei
        have O7:=Lib.hid o7
        have K7:=iV (K6.alloc (.cells #[.int .i64 (pos:Int),.int .i64 (S:Int),.int .i64 p,.bool false,.int .u64 0] 58)) Ei (λe=>by have:=JB.out _ e;omega)
        clear lo co fo K6 o7 Ei Ej yK vX
        obtain⟨lo,co,fo⟩:=K7.get
        go_wp2_with fail
        refine⟨⟨k,cap,f,acc++[(⟨(pos:Int),(S:Int),p,false,0⟩:Ob)],by first|rfl|go_num,by first|rfl|go_num,by have:=HR.out;omega,by have:=HR.out;simp;omega,by have:=HR.out;omega,?_,O7.out,B7.out⟩,?_⟩
        ·show _=_
         rw[HR.out]
         exact eF.out
        ·have:=HR.out
         simp[intOf];omega
      ·have hcp1:¬cap-(pos+1)=0:=by omega
       rcases hso:iK ⟨pos,S,p,false,0⟩ zs S with _|_
       ·have eF:Hid (aV (jP n ss) zs len (len+1) 0 0 []=.err 3 k):=by show _=_;rw[hres.out,hres2.out,CG.out];simp[hsh,hso]
        go_upto_region 20 with(fail)
        obtain⟨Q,hQ⟩:∃Q,Q=pos+1:=⟨_,rfl⟩
        obtain⟨R,hR⟩:∃R,R=pos+1+S:=⟨_,rfl⟩
        have jQ:IntKind.i64.wrap ((pos:Int)+1)=(Q:Int):=by rw[hQ];rw[fK _ (by omega)];omega
        have jR:IntKind.i64.wrap ((Q:Int)+(S:Int))=(R:Int):=by rw[hQ,hR];rw[fK _ (by omega)];omega
        have qR:(R:Int)<=(cap:Int):=by omega
        have qR2:R<=cap:=by omega
        have qQ:(Q:Int)<=(R:Int):=by omega
        have qQ2:Q<=R:=by omega
        have qS:R-Q=S:=by omega
        have qC:¬cap=Q:=by omega
        have HQ:=Lib.hid hQ
        have HR:=Lib.hid hR
        clear hQ hR i1 i2 i3 i4 n1 n2 hcp hcp1
        go_region_held3 (λw'=>w'.cell? ⟨oB,0,none⟩=some (.int .i64 pos)/\w'.cell? ⟨oB,1,none⟩=some (.int .i64 S)/\w'.cell? ⟨oB,2,none⟩=some (.int .i64 p)/\w'.cell? ⟨oB,3,none⟩=some (.bool false)/\w'.cell? ⟨oB,4,none⟩=some (.int .u64 0))
         (first|(refine uS ?_ Gg.out;exact bm))
         (first|(go_at_call 73;refine(kV b off S (cap-Q) pos (some ⟨b,off+Q,none⟩) p 0 false zs _ vW ?_ ?_ HZ.out).mono ?_;(intro h0;rw[HQ.out]);(intro h0;refine bC.block JC.out ?_;refine Below.block (B:=X.heap.size) ?_ b hbX;exact bm);rintro e w6 ⟨rfl,k6⟩))
        have B6:Hid (Below w.heap.size w w6):=by
         have:=Eh.out
         show Below _ _ _
         exact bm
        clear k6
        go_wp2_with fail
        go_ret2
        exact⟨by rw[eF.out];rfl,B6.out⟩
       ·have eF:Hid (aV (jP n ss) zs len (len+1) 0 0 []=aV (jP n ss) zs len f k (pos+1+S) (acc++[⟨pos,S,p,false,0⟩])):=by show _=_;rw[hres.out,hres2.out,CG.out];simp[hsh,hso]
        go_upto_region 20 with(fail)
        obtain⟨Q,hQ⟩:∃Q,Q=pos+1:=⟨_,rfl⟩
        obtain⟨R,hR⟩:∃R,R=pos+1+S:=⟨_,rfl⟩
        have jQ:IntKind.i64.wrap ((pos:Int)+1)=(Q:Int):=by rw[hQ];rw[fK _ (by omega)];omega
        have jR:IntKind.i64.wrap ((Q:Int)+(S:Int))=(R:Int):=by rw[hQ,hR];rw[fK _ (by omega)];omega
        have qR:(R:Int)<=(cap:Int):=by omega
        have qR2:R<=cap:=by omega
        have qQ:(Q:Int)<=(R:Int):=by omega
        have qQ2:Q<=R:=by omega
        have qS:R-Q=S:=by omega
        have qC:¬cap=Q:=by omega
        have HQ:=Lib.hid hQ
        have HR:=Lib.hid hR
        clear hQ hR i1 i2 i3 i4 n1 n2 hcp hcp1
        go_region_held3 (λw'=>w'.cell? ⟨oB,0,none⟩=some (.int .i64 pos)/\w'.cell? ⟨oB,1,none⟩=some (.int .i64 S)/\w'.cell? ⟨oB,2,none⟩=some (.int .i64 p)/\w'.cell? ⟨oB,3,none⟩=some (.bool false)/\w'.cell? ⟨oB,4,none⟩=some (.int .u64 0))
         (first|(refine uS ?_ Gg.out;exact bm))
         (first|(go_at_call 73;refine(kV b off S (cap-Q) pos (some ⟨b,off+Q,none⟩) p 0 false zs _ vW ?_ ?_ HZ.out).mono ?_;(intro h0;rw[HQ.out]);(intro h0;refine bC.block JC.out ?_;refine Below.block (B:=X.heap.size) ?_ b hbX;exact bm);rintro e w6 ⟨rfl,k6⟩))
        have zO:Below X.heap.size X w6:=by exact bm
        have B6:Hid (Below w.heap.size w w6):=au Eh.out zO
        have yK:=Lib.hid (iW YX.out zO)
        have K6:=KX.tr zO
        have h86:Hid (∀j,u8.ownBlock=some j->j<w6.heap.size):=oI yK.out (Nat.le_refl _)
        have hs6:=B6.out.size
        clear k6 zO lo co fo Gg
        obtain⟨lo,co,fo⟩:=K6.get
        have hsrc:bT (w6.alloc (.cells #[.int .i64 (pos:Int),.int .i64 (S:Int),.int .i64 p,.bool false,.int .u64 0] 58)) (.slice (some ⟨w6.heap.size,0,none⟩) 1 1) [⟨(pos:Int),S,p,false,0⟩]:=sF _ [⟨(pos:Int),S,p,false,0⟩] w6.heap.size (aj.new _ _ _) (by simp)
        have vX:=Lib.hid hsrc
        clear hsrc
        go_wp2_with (at_builtin;refine sQ _ rfl _ _ rfl w.heap.size u8 (.slice (some ⟨w6.heap.size,0,none⟩) 1 1) acc [⟨(pos:Int),S,p,false,0⟩] rfl rfl (iW yK.out ((Below.refl _ _).alloc (Nat.le_refl _) _)) vX.out ?c0 ?c1 ?c2)
        case c0=>simp;omega
        case c1=>exact kM hs6
        case c2=>
        intro v7 w7 o7 Ei Ej
        have B7:Hid (Below w.heap.size w w7):=xM (B6.out.alloc hs6 _) yK.out Ei
        have O7:=Lib.hid o7
        have K7:=iV (K6.alloc (.cells #[.int .i64 (pos:Int),.int .i64 (S:Int),.int .i64 p,.bool false,.int .u64 0] 58)) Ei (λe=>by have:=JB.out _ e;omega)
        clear lo co fo K6 o7 Ei Ej yK vX
        obtain⟨lo,co,fo⟩:=K7.get
        go_wp2_with fail
        refine⟨⟨k,R,f,acc++[(⟨(pos:Int),(S:Int),p,false,0⟩:Ob)],by first|rfl|go_num,by first|rfl|go_num,by have:=HR.out;omega,by have:=HR.out;simp;omega,by have:=HR.out;omega,?_,O7.out,B7.out⟩,?_⟩
        ·show _=_
         rw[HR.out]
         exact eF.out
        ·have:=HR.out
         simp[intOf];omega
  ·obtain⟨f,rfl⟩:∃f',f=f'+1:=⟨f-1,by omega⟩
   have hres2:=Lib.hid (gQ (bg:=jP n ss) (zs:=zs) (f:=f) (k:=k) (acc:=acc) hlt)
   obtain rfl:pos=len:=by omega
   by_cases hkl:k<n
   ·have agH:(k:Int)<(n:Int):=by omega
    go_wp2_with fail
    go_ret2
    exact⟨by rw[hres.out,hres2.out];unfold jv;dsimp only;rw[if_pos hkl];rfl,hbw.out⟩
   ·have agH:¬(k:Int)<(n:Int):=by omega
    go_wp2_with fail
    go_ret2
    exact⟨by rw[hres.out,hres2.out];unfold jv;dsimp only;rw[if_neg hkl];exact⟨_,rfl,hown.out⟩,hbw.out⟩
end Go.Proofs.YtpgjploaliefdaaGreat.ob
namespace Go.Proofs.YtpgjploaliefdaaGreat.ob
open Go.RowKit hd
set_option linter.unusedVariables false
set_option linter.unusedSimpArgs false
theorem Em(v:Value)(zs:List Int)(w:World)(h:aN w v zs)(hz:Small zs)(hl:zs.length<1000000):
  Calls Tryz.prog 88 #[v] w λe W'=>jk w.heap.size (newF zs) e W'/\Below w.heap.size w W':=by
 obtain⟨ad,b,off,cap,rfl,⟨a1,a2⟩,a3,a4,a5,a6⟩:=h
 have hwk:=JA b off zs.length cap ad zs a1 a3 a4.1 hz w a6 hl
 have HW:=Lib.hid hwk
 have HR:Hid (aV oL zs zs.length (zs.length+1) 0 0 []=newF zs):=rfl
 rcases hr:newF zs with⟨l,k⟩|⟨c,k⟩
 ·have HRR:=Lib.hid hr
  generalize zs.length=n at*
  clear hwk hr a1 a6 hz
  go_enter Tryz.func88,Tryz.ntmps88
  go_wp2_with fail
  refine HW.out.mono ?_
  rintro e W' ⟨h,hb⟩
  rw[HR.out,HRR.out]at h
  obtain⟨v,rfl,ho⟩:=h
  go_wp2_with fail
  go_ret2
  exact⟨⟨v,rfl,ho⟩,hb⟩
 ·have HRR:=Lib.hid hr
  generalize zs.length=n at*
  clear hwk hr a1 a6 hz
  go_enter Tryz.func88,Tryz.ntmps88
  go_wp2_with fail
  refine HW.out.mono ?_
  rintro e W' ⟨h,hb⟩
  rw[HR.out,HRR.out]at h
  obtain rfl:=h
  go_wp2_with fail
  go_ret2
  exact⟨rfl,hb⟩
theorem rM(v u:Value)(zs:List Int)(ss:List (Int×Int))(w:World)(h:aN w v zs)(hz:Small zs)(hs:dV w u ss)(hl:zs.length<1000000)(hn:ss.length<1000000):
  Calls Tryz.prog 13 #[v,u] w λe W'=>jk w.heap.size (iq zs ss) e W'/\Below w.heap.size w W':=by
 obtain⟨ad,b,off,cap,rfl,⟨a1,a2⟩,a3,a4,a5,a6⟩:=h
 obtain⟨ad',b',off',cap',rfl,⟨a1',a2'⟩,a3',a4',a5',a6'⟩:=hs
 have hwk:=JD b off zs.length cap ad zs a1 a3 a4.1 hz b' off' ss.length cap' ad' ss a1' hn w a6 a6' hl
 have HW:=Lib.hid hwk
 have HR:Hid (jv ss.length (aV (jP ss.length ss) zs zs.length (zs.length+1) 0 0 [])=iq zs ss):=rfl
 rcases hr:iq zs ss with⟨l,k⟩|⟨c,k⟩
 ·have HRR:=Lib.hid hr
  generalize zs.length=n at*
  generalize ss.length=m at*
  clear hwk hr a1 a6 hz a1' a6'
  go_enter Tryz.func13,Tryz.ntmps13
  go_wp2_with fail
  refine HW.out.mono ?_
  rintro e W' ⟨h,hb⟩
  rw[HR.out,HRR.out]at h
  obtain⟨v,rfl,ho⟩:=h
  go_wp2_with fail
  go_ret2
  exact⟨⟨v,rfl,ho⟩,hb⟩
 ·have HRR:=Lib.hid hr
  generalize zs.length=n at*
  generalize ss.length=m at*
  clear hwk hr a1 a6 hz a1' a6'
  go_enter Tryz.func13,Tryz.ntmps13
  go_wp2_with fail
  refine HW.out.mono ?_
  rintro e W' ⟨h,hb⟩
  rw[HR.out,HRR.out]at h
  obtain rfl:=h
  go_wp2_with fail
  go_ret2
  exact⟨rfl,hb⟩
end Go.Proofs.YtpgjploaliefdaaGreat.ob
