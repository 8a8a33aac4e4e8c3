/- The reader of parse: gone. LONE=M. No conditions. -/
import Derived.Test.YtlncengggmgdgaaGreatG22
import Derived.Test.YtlncengggmgdgaaGreatG28
import Derived.Test.YtlncengggmgdgaaGreatEe
import Derived.Test.YtlncengggmgdgaaGreatG25
set_option linter.unusedVariables false
set_option linter.unusedSimpArgs false
set_option maxRecDepth 100000
namespace Go.Proofs.YtlncengggmgdgaaGreat.ps
open Go Go.RowKit cm cw gr hd lx ob hp
open fr (VT vt jl)
attribute [local irreducible] par.ah
set_option maxHeartbeats 4000000
def tZ(os:List Ob)(x:Int):Option Ob:=os.find? λo=>decide (o.pos=x)&&fU o.s o.p
def xG(L:Lay)(os:List Ob)(l:List Nat)(p:Nat):rZ:=
 match vt 0 0 (l.drop p)with
 | .short=>.er 2
 | .form=>.er 3
 | .ok v n=>
  if lC v=true/\(zM L v).2.2=0/\(zM L v).1=1 then
   match tZ os (zM L v).2.1 with
   |some o=>.ok ((2*(v:Int)+1)::List.replicate o.s.toNat 0) (p+n)
   |none=>.er 3
  else .er 3
theorem XR(k:Nat):zU k=(List.replicate k (Value.int .u64 0)).toArray:=by
 apply Array.ext
 ·simp[zU,madeCells,Value.cells]
 ·intro i h1 h2
  simp[zU,madeCells,Value.cells,Nat.mod_one]
theorem TU(W:World)(c:Nat)(x:Int)(hc:c<1000):aX 24 1 nH (W.alloc (.cells ((zU (c+1)).setIfInBounds 0 (.int .u64 x)) 24)) W.heap.size (.slice (some ⟨W.heap.size,0,none⟩) (c+1) (c+1)) (x::List.replicate c 0):=by
 have hB:=aW.new W ((zU (c+1)).setIfInBounds 0 (.int .u64 x)) 24
 unfold aX
 refine⟨by simp[nH],.inr ⟨W.heap.size,c+1,_,by simp,Nat.le_refl _,hB.raw,by simp,by unfold maxLen;omega,?_,?_⟩⟩
 ·simp[XR]
 ·simp[XR,nH,List.replicate_succ,List.flatMap_replicate]
theorem agL(c:Nat)(W:World)(h:c<1000):(Instr.makeSlice 32 (.int .i64 (c:Int)) (.int .i64 (c:Int))).run (par.ah par.Hm) W=.ok (.slice (some ⟨W.heap.size,0,none⟩) c c) (W.alloc (.cells (zU c) 24)):=by
 obtain⟨i0,hi,hz0,hz1,hz2⟩:=info_parts Dp
 have:=run_make (P:=(par.ah par.Hm)) W 32 24 i0 (.int .u64 0) ((par.aB par.Hm 32).trans Tryz.underlying32) hi hz0 .i64 .i64 c c (by omega) (by omega) (by rw[hz2];omega) (by omega)
 rw[this,hz1]
 simp[zU]
theorem TV(B:Nat)(s:ByteArray)(p:Nat)(w:World)(L:Lay)(os:List Ob)(ad:Option Addr)(b off cap:Nat)(hs:s.size<10000000000)(hp:p<=s.size)(hB:aW w B (zK s p) 157)(ok:L.ok)
  (had:0<os.length->ad=some ⟨b,off,none⟩) (hlc:os.length<=cap) (hcap:cap<9223372036854775808) (hbB:b≠B) (hbw:b<w.heap.size) (hos:fZ w b off os.length os):
  Calls (par.ah par.Hm) 103 #[.pointer (some ⟨B,0,none⟩),kP L,.slice ad os.length cap] w λe w'=>yO B s (xG L os (au s) p) w e w':=by
 have lB:=hB.lt
 generalize hRR:xG L os (au s) p=RR
 unfold xG at hRR
 have HFD:=Lib.hid λx W(hx:U64 x)=>XQ L x W ok hx
 have HV:=Lib.hid λv c(h:vt 0 0 ((au s).drop p)=.ok v c)=>jl _ 0 0 (λb hb=>bP s b (List.mem_of_mem_drop hb)) (by decide) (by omega) h
 have HLV:=Lib.hid (rfl:kP L=kP L)
 have hLc:kP L=.agg #[.int .u64 L.base,.int .i64 L.cap,.int .i64 L.tt,.int .i64 L.low,.int .i64 L.high,.int .i64 L.old,.int .i64 L.far]:=rfl
 generalize hfr:zM L=FR at*
 unfold kP at*
 obtain⟨base,cp,tt,low,high,old,far⟩:=L
 dsimp only at*
 clear ok hfr HLV hLc
 go_enter par.aaH,Tryz.ntmps103
 go_wp2_with fail
 refine(kV B s p _ hs hp (by exact bk)).mono ?_;rintro e w1 ⟨g1,h1⟩
 have K1:=iO (show aW (w.alloc (.cells #[.int .u64 base,.int .i64 cp,.int .i64 tt,.int .i64 low,.int .i64 high,.int .i64 old,.int .i64 far] 30)) w.heap.size #[.int .u64 base,.int .i64 cp,.int .i64 tt,.int .i64 low,.int .i64 high,.int .i64 old,.int .i64 far] 30 by exact bk) g1 (λe=>by have e:w.heap.size=B:=Option.some.inj e;omega)
 have G1:=Lib.hid ((jZ (lV w (some B)) (.cells #[.int .u64 base,.int .i64 cp,.int .i64 tt,.int .i64 low,.int .i64 high,.int .i64 old,.int .i64 far] 30)).trans g1)
 clear g1
 rcases hv:vt 0 0 ((au s).drop p)with⟨v,n⟩|_|_
 ·rw[hv]at h1 hRR
  dsimp only at h1 hRR
  obtain⟨rfl,hB1⟩:=h1
  have B1:=Lib.hid hB1
  obtain⟨hn0,hn1,hv1⟩:=HV.out v n hv
  clear HV hB1 hv hn0 hn1 hB
  obtain⟨l1,c1,f1⟩:=K1.get
  go_wp2_with fail
  refine(Qo v _ (by omega) (by omega)).mono ?_;rintro e ww ⟨rfl,rfl⟩
  by_cases hk1:lC (v:Int)=true
  ·have hE:um (v:Int)=0:=by simp[um,hk1]
   have hV:uj (v:Int)=2*v+1:=by simp[uj,hk1]
   rw[hE,hV]
   go_wp2_with fail
   refine(aV _ _ _).mono ?_;rintro e ww ⟨⟨_,rfl⟩|⟨h,rfl⟩,rfl⟩;rotate_left;exact absurd h (by decide)
   go_wp2_with fail
   refine(HFD.out v _ ⟨by omega,by omega⟩).mono ?_;rintro e w2 ⟨rfl,k2⟩
   have B2:=Lib.hid (B1.out.tr k2)
   have G2:=Lib.hid (G1.out.trans (below_grown k2 _))
   clear K1 l1 c1 f1 B1 G1 HFD k2
   generalize FR (v:Int)=R at*
   obtain⟨part,x,er⟩:=R
   unfold nX
   dsimp only at*
   have KB:=Lib.hid ((B2.out.alloc (.cells #[.int .i64 part,.int .i64 x] 130)))
   have GB:=Lib.hid (jZ G2.out (.cells #[.int .i64 part,.int .i64 x] 130))
   by_cases he:er=0
   ·subst he
    by_cases hpt:part=1
    ·subst hpt
     rw[if_pos ⟨hk1,rfl,rfl⟩]at hRR
     have HRR:=Lib.hid hRR
     have KP:=Lib.hid (aW.new w2 #[.int .i64 1,.int .i64 x] 130)
     clear hRR
     go_wp2_with fail
     refine(aV _ _ _).mono ?_;rintro e ww ⟨⟨_,rfl⟩|⟨h,rfl⟩,rfl⟩;rotate_left;exact absurd h (by decide)
     go_wp2_with fail
     go_loopw [40] (λi wr=>∃k:Nat,k<=os.length/\i=.int .i64 k/\Hid (tZ os x=tZ (os.drop k) x)/\Hid (w.grownBy wr (some B))/\Hid (aW wr B (zK s (p+n)) 157)/\Hid (aW wr w2.heap.size #[.int .i64 1,.int .i64 x] 130)) (λi _=>os.length-(intOf i).toNat)
     case atStart=>exact⟨0,Nat.zero_le _,rfl,Lib.hid rfl,GB,KB,KP⟩
     clear KB GB KP B2 G2
     obtain⟨k,hk,rfl,hsh,hG,hBk,hPk⟩:=hrel
     by_cases hlt:k<os.length
     ·obtain rfl:=had (by omega)
      have aju:=hos.block (hG.out.block b hbw (λe=>hbB (Option.some.inj e)))
      obtain⟨o0,o1,o2,o3,o4⟩:=aju.at k hlt
      have HN:Hid (tZ (os.drop k) x=if(decide ((Dl os k).pos=x)&&fU (Dl os k).s (Dl os k).p)=true then some (Dl os k)else tZ (os.drop (k+1)) x):=Lib.hid (by
       rw[List.drop_eq_getElem_cons hlt]
       show(List.find? _ (os[k]::os.drop (k+1)))=_
       rw[List.find?_cons]
       simp only[Dl,List.getD,List.getElem?_eq_getElem hlt,Option.getD_some]
       split<;>simp_all[tZ])
      generalize Dl os k=O at*
      obtain⟨P,S,pp,g,tt2⟩:=O
      dsimp only at*
      have aek:=Lib.hid (hBk.out.alloc (.cells #[.int .i64 P,.int .i64 S,.int .i64 pp,.bool g,.int .u64 tt2] 56))
      have hG2:=Lib.hid (jZ hG.out (.cells #[.int .i64 P,.int .i64 S,.int .i64 pp,.bool g,.int .u64 tt2] 56))
      have ael:=Lib.hid (hPk.out.alloc (.cells #[.int .i64 P,.int .i64 S,.int .i64 pp,.bool g,.int .u64 tt2] 56))
      obtain⟨lP,cP,fP⟩:=hPk.out.get
      have Kv:os.length-(intOf (.int .i64 ((k:Int)+1))).toNat<os.length-(intOf (.int .i64 (k:Int))).toNat:=by simp[intOf];omega
      by_cases hpos:P=x
      ·subst hpos
       go_wp2_with fail
       refine(tV _ _ _).mono ?_;rintro e w4 ⟨rfl,b4⟩
       have KO:aW w4 wr.heap.size #[.int .i64 P,.int .i64 S,.int .i64 pp,.bool g,.int .u64 tt2] 56:=aW.tr (by exact bk) b4
       have agM:=Lib.hid (aek.out.tr b4)
       have hG3:=Lib.hid (hG2.out.trans (below_grown b4 _))
       have ajv:=Lib.hid (ael.out.tr b4)
       clear aek hG2 ael b4
       rcases hrt:fU S pp with _|_
       ·rw[hrt]at HN
        go_wp2_with fail
        exact⟨⟨k+1,by omega,by go_num,Lib.hid (by rw[hsh.out,HN.out];simp),hG3,agM,ajv⟩,Kv⟩
       ·rw[hrt]at HN
        have hSr:0<=S/\S<=255:=by simp[fU]at hrt;omega
        obtain⟨S,rfl⟩:=Int.eq_ofNat_of_zero_le hSr.1
        obtain⟨lO,cO,fO⟩:=KO.get
        have hmk:=λW=>agL (S+1) W (by omega)
        simp only[Int.natCast_add,Int.natCast_one]at hmk
        obtain⟨lz,cz,fz⟩:=(aW.new w4 (zU (S+1)) 24).get
        have cz0:(w4.alloc (.cells (zU (S+1)) 24)).cell? ⟨w4.heap.size,0,none⟩=some (.int .u64 0):=by rw[cz 0,XR];simp[List.replicate_succ]
        have fz0:=fz 0
        clear cz fz
        have HOW:=Lib.hid (TU w4 S (2*v+1) (by omega))
        go_wp2_with fail
        go_ret
        refine⟨?_,?_⟩
        ·exact jZ hG3.out _
        ·rw[<-HRR.out,hsh.out,HN.out]
         simp only[decide_true,Bool.and_true,if_true]
         refine⟨_,rfl,?_,?_⟩
         ·exact(by simpa using HOW.out.lift hG3.out.size)
         ·exact agM.out.alloc _
      ·have hpb:(P==x)=false:=by simp[hpos]
       go_wp2_with fail
       exact⟨⟨k+1,by omega,by go_num,Lib.hid (by rw[hsh.out,HN.out];simp[hpos]),hG2,aek,ael⟩,Kv⟩
     ·obtain rfl:k=os.length:=by omega
      go_wp2_with fail
      refine⟨rfl,hG.out,?_⟩
      rw[<-HRR.out,hsh.out,List.drop_length]
      rfl
    ·rw[if_neg (λh=>hpt h.2.2)]at hRR
     have hpb:(part==1)=false:=by simp[hpt]
     go_wp2_with fail
     refine(aV _ _ _).mono ?_;rintro e ww ⟨⟨h,rfl⟩|⟨_,rfl⟩,rfl⟩
     ·exact absurd h (by decide)
     ·unfold thrown
      go_wp2_with fail
      refine⟨rfl,GB.out,?_⟩
      rw[<-hRR]
      rfl
   ·rw[if_neg (λh=>he h.2.1)]at hRR
    have heb:(er==0)=false:=by simp[he]
    go_wp2_with fail
    refine(aV _ _ _).mono ?_;rintro e ww ⟨⟨h,rfl⟩|⟨_,rfl⟩,rfl⟩
    ·exact absurd h (by decide)
    ·unfold thrown
     go_wp2_with fail
     refine⟨rfl,GB.out,?_⟩
     rw[<-hRR]
     rfl
  ·have hE:um (v:Int)=1:=by simp[um,hk1]
   rw[if_neg (λh=>hk1 h.1)]at hRR
   rw[hE]
   go_wp2_with fail
   refine(aV _ _ _).mono ?_;rintro e ww ⟨⟨h,rfl⟩|⟨_,rfl⟩,rfl⟩
   ·exact absurd h (by decide)
   ·unfold thrown
    go_wp2_with fail
    refine⟨rfl,G1.out,?_⟩
    rw[<-hRR]
    rfl
 ·rw[hv]at h1 hRR
  dsimp only at h1 hRR
  subst h1
  unfold thrown
  go_wp2_with fail
  refine⟨rfl,G1.out,?_⟩
  rw[<-hRR]
  rfl
 ·rw[hv]at h1 hRR
  dsimp only at h1 hRR
  subst h1
  unfold thrown
  go_wp2_with fail
  refine⟨rfl,G1.out,?_⟩
  rw[<-hRR]
  rfl
end Go.Proofs.YtlncengggmgdgaaGreat.ps
namespace Go.Proofs.YtlncengggmgdgaaGreat.ps
open Go Go.RowKit cm cw gr hd lx ob hp
open fr (VT vt jl)
attribute [local irreducible] par.ah
set_option maxHeartbeats 4000000
def XT(L:Lay)(os:List Ob)(l:List Nat)(kind p:Nat):rZ:=if kind=0 then uZ l p else if kind=1 then xG L os l p else .er 3
def Oy(L:Lay)(os:List Ob)(l:List Nat)(most:Int):Nat->Nat->List Int->rZ
 |0,p,acc=>if p=l.length then .ok acc p else .er 3
 |k+1,p,acc=>match vt 0 0 (l.drop p)with
  | .short=>.er 2
  | .form=>.er 3
  | .ok kind n=>match XT L os l kind (p+n)with
   | .er c=>.er c
   | .ok xs q=>if((acc++xs).length:Int)<=most then Oy L os l most k q (acc++xs)else .er 3
def nD(L:Lay)(os:List Ob)(l:List Nat)(most:Int):rZ:=
 match vt 0 0 (l.drop 0)with
 | .short=>.er 2
 | .form=>.er 3
 | .ok c n=>Oy L os l most c n []
def ku(R:rZ)(w:World)(e:Ending)(w':World):Prop:=
 Below w.heap.size w w'/\match R with
  | .ok xs q=>∃v,e=.returned v/\aX 24 1 nH w' w.heap.size v xs
  | .er c=>e=thrown c
theorem TW{l:List Nat}(hl:∀b∈l,b<256){p q:Nat}{xs:List Int}(hp:p<=l.length)(h:uZ l p=.ok xs q):q<=l.length/\xs.length<=256/\∀x∈xs,0<=x/\x<18446744073709551616:=by
 unfold uZ at h
 split at h
 ·cases h
 ·rename_i ys q0 hr
  obtain⟨a,b,rfl,ha,hb,hq⟩:=agF hl hp hr
  simp only[List.getD_cons_zero,List.getD_cons_succ]at h
  split at h
  ·rename_i hab
   split at h
   ·cases h
   ·rename_i rs q1 h1
    split at h
    ·cases h
    ·rename_i ss q2 h2
     cases h
     have r1:=Dt hl hq h1
     have r2:=Qv hl h2
     have l1:rs.length=b.toNat:=by
      unfold iG at h1
      split at h1
      ·cases h1
      ·rename_i zs q' hz
       split at h1
       ·cases h1
       ·rename_i ys' hy
        cases h1
        rw[tX _ hy,xA _ _ _ hz];simp
     have l2:ss.length=(a-b).toNat:=by
      unfold xB at h2
      split at h2
      ·cases h2
      ·cases h2;simp[og]
     refine⟨r2.le,by simp;omega,λx hx=> ?_⟩
     rcases List.mem_cons.1 hx with rfl|hx
     ·unfold jW
      split<;>omega
     ·rcases List.mem_append.1 hx with hx|hx
      ·exact r1.small x hx
      ·exact r2.small x hx
  ·cases h
theorem XU{L:Lay}{os:List Ob}{l:List Nat}(hl:∀b∈l,b<256){p q:Nat}{xs:List Int}(hp:p<=l.length)(h:xG L os l p=.ok xs q):q<=l.length/\xs.length<=256/\∀x∈xs,0<=x/\x<18446744073709551616:=by
 unfold xG at h
 split at h
 ·cases h
 ·cases h
 ·rename_i v n hv
  have h2:=jl _ 0 0 (λb hb=>hl b (List.mem_of_mem_drop hb)) (by decide) (by omega) hv
  rw[List.length_drop]at h2
  split at h
  ·rename_i hc
   split at h
   ·rename_i o ho
    cases h
    have:=xg hc.1
    have hr:=List.find?_some ho
    simp[fU]at hr
    refine⟨by omega,by simp;omega,λx hx=> ?_⟩
    rcases List.mem_cons.1 hx with rfl|hx
    ·omega
    ·obtain⟨_,rfl⟩:=List.mem_replicate.1 hx
     omega
   ·cases h
  ·cases h
theorem Qw{L:Lay}{os:List Ob}{l:List Nat}(hl:∀b∈l,b<256){kind p q:Nat}{xs:List Int}(hp:p<=l.length)(h:XT L os l kind p=.ok xs q):q<=l.length/\xs.length<=256/\∀x∈xs,0<=x/\x<18446744073709551616:=by
 unfold XT at h
 split at h
 ·exact TW hl hp h
 ·split at h
  ·exact XU hl hp h
  ·cases h
def Ia(L:Lay):Array Value:= #[.int .u64 L.base,.int .i64 L.cap,.int .i64 L.tt,.int .i64 L.low,.int .i64 L.high,.int .i64 L.old,.int .i64 L.far]
structure vg(w:World)(s:ByteArray)(L:Lay)(u:Value)(P:Nat)(wr:World):Prop where
 lay:aW wr w.heap.size (Ia L) 30
 sl:aW wr (w.heap.size+1) #[u] 28
 rd:aW wr (w.heap.size+1+1) (zK s P) 157
 rp:aW wr (w.heap.size+1+1+1) #[.pointer (some ⟨w.heap.size+1+1,0,none⟩)] 155
 below:Below w.heap.size w wr
theorem vg.gr{w wr w':World}{s:ByteArray}{L:Lay}{u:Value}{P Q:Nat}(h:vg w s L u P wr)(hg:wr.grownBy w' (some (w.heap.size+1+1)))(hr:aW w' (w.heap.size+1+1) (zK s Q) 157):vg w s L u Q w':=
 ⟨iO h.lay hg (λe=>by have e:=Option.some.inj e;omega),iO h.sl hg (λe=>by have e:=Option.some.inj e;omega),hr,iO h.rp hg (λe=>by have e:=Option.some.inj e;omega),
  dF (v:=.slice (some ⟨w.heap.size+1+1,0,none⟩) 0 0) hg h.below (Nat.le_refl _) (λk e=>by have e:w.heap.size+1+1=k:=Option.some.inj e;omega)⟩
theorem vg.thrown{w wr w':World}{s:ByteArray}{L:Lay}{u:Value}{P:Nat}(h:vg w s L u P wr)(hg:wr.grownBy w' (some (w.heap.size+1+1))):Below w.heap.size w w':=
 dF (v:=.slice (some ⟨w.heap.size+1+1,0,none⟩) 0 0) hg h.below (Nat.le_refl _) (λk e=>by have e:w.heap.size+1+1=k:=Option.some.inj e;omega)
theorem vg.own{w wr w':World}{s:ByteArray}{L:Lay}{u v:Value}{P:Nat}(h:vg w s L u P wr)(hg:wr.grownBy w' v.ownBlock)(ho:∀k,v.ownBlock=some k->w.heap.size+4<=k):vg w s L u P w':=
 ⟨iO h.lay hg (λe=>by have:=ho _ e.symm;omega),iO h.sl hg (λe=>by have:=ho _ e.symm;omega),iO h.rd hg (λe=>by have:=ho _ e.symm;omega),iO h.rp hg (λe=>by have:=ho _ e.symm;omega),
  dF hg h.below (Nat.le_refl _) (λk e=>by have:=ho k e;omega)⟩
theorem vg.size{w wr:World}{s:ByteArray}{L:Lay}{u:Value}{P:Nat}(h:vg w s L u P wr):w.heap.size+4<=wr.heap.size:=h.rp.lt
theorem XV(w wr:World)(s:ByteArray)(P:Nat)(L:Lay)(os:List Ob)(ad:Option Addr)(b off cap:Nat)(hs:s.size<10000000000)(hp:P<=s.size)(ok:L.ok)
  (had:0<os.length->ad=some ⟨b,off,none⟩) (hlc:os.length<=cap) (hcap:cap<9223372036854775808) (hbw:b<w.heap.size) (hos:fZ w b off os.length os) (h:vg w s L (.slice ad os.length cap) P wr):
  Calls (par.ah par.Hm) 102 #[.pointer (some ⟨w.heap.size+1+1+1,0,none⟩),.pointer (some ⟨w.heap.size,0,none⟩),.pointer (some ⟨w.heap.size+1,0,none⟩)] wr λe w'=>yO (w.heap.size+1+1) s (xG L os (au s) P) wr e w':=by
 have hbl:=h.below
 have H:=Lib.hid (TV (w.heap.size+1+1) s P wr L os ad b off cap hs hp h.rd ok had hlc hcap (by omega) (Nat.lt_of_lt_of_le hbw hbl.size) (hos.block (hbl.block b hbw)))
 have K0:=h.lay
 have K1:=h.sl
 have K3:=h.rp
 generalize hR:xG L os (au s) P=R at*
 unfold Ia at K0
 unfold kP at H
 clear h hos hbl had
 obtain⟨base,cp,tt,low,high,old,far⟩:=L
 dsimp only at*
 clear hR ok
 obtain⟨l0,c0,f0⟩:=K0.get
 obtain⟨l1,c1,f1⟩:=K1.get
 obtain⟨l3,c3,f3⟩:=K3.get
 go_enter (par.ZI (H:=par.Hm)),Tryz.ntmps102
 go_wp2_with fail
 refine H.out.mono ?_;rintro e w1 ⟨g1,h1⟩
 rcases R with⟨xs,q⟩|c
 ·obtain⟨v,rfl,ho,hb⟩:=h1
  have O:=Lib.hid ho
  have HB:=Lib.hid hb
  clear ho hb
  go_wp2_with fail
  go_ret
  exact⟨g1,v,rfl,O.out,HB.out⟩
 ·dsimp only at h1
  subst h1
  unfold thrown
  go_wp2_with fail
  exact⟨rfl,g1,rfl⟩
end Go.Proofs.YtlncengggmgdgaaGreat.ps
namespace Go.Proofs.YtlncengggmgdgaaGreat.ps
open Go Go.RowKit cm cw gr hd lx ob hp
open fr (VT vt jl)
attribute [local irreducible] par.ah
set_option maxHeartbeats 4000000
theorem xH(s:ByteArray)(most:Int)(w:World)(L:Lay)(os:List Ob)(ad:Option Addr)(b off cap:Nat)(hs:s.size<10000000000)(hm0: -9223372036854775808<=most)(hm:most<10000000000)(ok:L.ok)
  (had:0<os.length->ad=some ⟨b,off,none⟩) (hlc:os.length<=cap) (hcap:cap<9223372036854775808) (hbw:b<w.heap.size) (hos:fZ w b off os.length os):
  Calls (par.ah par.Hm) 57 #[.string s,.int .i64 most,kP L,.slice ad os.length cap] w λe w'=>ku (nD L os (au s) most) w e w':=by
 have HW:=Lib.hid λwr P hp(h:vg w s L (.slice ad os.length cap) P wr)=>TQ (w.heap.size+1+1) s P wr hs hp h.rd
 have HG:=Lib.hid λwr P hp(h:vg w s L (.slice ad os.length cap) P wr)=>XV w wr s P L os ad b off cap hs hp ok had hlc hcap hbw hos h
 have HV:=Lib.hid λP v c(h:vt 0 0 ((au s).drop P)=.ok v c)=>jl _ 0 0 (λb hb=>bP s b (List.mem_of_mem_drop hb)) (by decide) (by omega) h
 have HO:=Lib.hid λkind p q xs hp=>Qw (L:=L) (os:=os) (bP s) (kind:=kind) (p:=p) (q:=q) (xs:=xs) hp
 clear had hlc hcap hbw hos
 generalize hRR:nD L os (au s) most=RR
 unfold nD at hRR
 have aem:Hid (kP L=.agg (Ia L)):=Lib.hid rfl
 have hmf:∀(fn:Fn)(first cap:Array Value)(w:World),(Instr.makeFunc fn first cap).run (par.ah par.Hm) w=.ok (.func fn first cap) w:=λ_ _ _ _=>rfl
 have hAS:Hid (vg w s L (.slice ad os.length cap) 0 ((((w.alloc (.cells (Ia L) 30)).alloc (.cells #[.slice ad os.length cap] 28)).alloc (.cells #[.string s,.int .i64 0] 157)).alloc (.cells #[.pointer (some ⟨w.heap.size+1+1,0,none⟩)] 155))):=Lib.hid (by
  refine⟨by exact bk,by exact bk,by unfold zK;exact bk,by exact bk,by exact bm⟩)
 unfold kP Ia at*
 go_enter par.ad7,Tryz.ntmps57
 go_wp2_with fail
 refine(kV (w.heap.size+1+1) s 0 _ hs (Nat.zero_le _) hAS.out.rd).mono ?_;rintro e w1 ⟨g1,h1⟩
 rcases hv:vt 0 0 ((au s).drop 0)with⟨c,n⟩|_|_
 ·rw[hv]at h1 hRR
  dsimp only at h1 hRR
  obtain⟨rfl,hB1⟩:=h1
  obtain⟨hn0,hn1,hv1⟩:=HV.out 0 c n hv
  rw[List.length_drop,aC]at hn1
  have hS1:=Lib.hid (hAS.out.gr g1 hB1)
  have HRR:=Lib.hid hRR
  have hP:0+n<=s.size:=by omega
  rw[Nat.zero_add]at hS1 hP
  clear hv hRR hB1 g1 hAS hn0 hn1
  go_wp2_with fail
  go_loopw [10,17] (λwv i wr=>∃(k P:Nat)(acc:List Int),k<=c/\P<=s.size/\i=.int .u64 (k:Int)/\Hid (aX 24 1 nH wr (w.heap.size+4) wv acc)/\Hid (acc.length<10000000000)/\Hid (Oy L os (au s) most (c-k) P acc=RR)/\Hid (vg w s L (.slice ad os.length cap) P wr)) (λ_ i _=>c-(intOf i).toNat)
  case atStart=>exact⟨0,n,[],Nat.zero_le _,hP,rfl,Lib.hid (aX.nil _ _),Lib.hid (by simp),HRR,hS1⟩
  clear hS1 HRR
  obtain⟨k,P,acc,hk,hP,rfl,ho,hal,hR,hS⟩:=hrel
  by_cases hlt:k<c
  ·obtain⟨m,hmk⟩:∃m,c-k=m+1:=⟨c-k-1,by omega⟩
   rw[hmk]at hR
   have HMK:=Lib.hid hmk
   clear hmk
   obtain⟨l3,c3,f3⟩:=hS.out.rp.get
   go_wp2_with fail
   refine(kV (w.heap.size+1+1) s P _ hs hP hS.out.rd).mono ?_;rintro e w2 ⟨g2,h2⟩
   rcases hv:vt 0 0 ((au s).drop P)with⟨kind,n2⟩|_|_
   ·rw[hv]at h2
    dsimp only at h2
    obtain⟨rfl,hB2⟩:=h2
    obtain⟨hn0,hn1,hv2⟩:=HV.out P kind n2 hv
    rw[List.length_drop,aC]at hn1
    have hP2:P+n2<=s.size:=by omega
    have agN:Hid (P+n2<=(au s).length):=Lib.hid (by rw[aC];exact hP2)
    have hS2:=Lib.hid (hS.out.gr g2 hB2)
    have o2:=Lib.hid (bQ ho.out g2 (by omega))
    have hR2:Hid ((match XT L os (au s) kind (P+n2)with| .er c=>.er c| .ok xs q=>if((acc++xs).length:Int)<=most then Oy L os (au s) most m q (acc++xs)else .er 3)=RR):=Lib.hid (by
     rw[<-hR.out]
     show _=(match vt 0 0 ((au s).drop P)with| .short=>_| .form=>_| .ok kind n=>_)
     rw[hv]
     try rfl)
    have Oz:=Lib.hid λxs q=>HO.out kind (P+n2) q xs agN.out
    clear hv hR hS hB2 g2 ho l3 c3 f3 agN HO hn0 hn1
    unfold XT at hR2 Oz
    by_cases hk0:kind=0
    ·subst hk0
     rw[if_pos rfl]at hR2
     simp only[if_true]at Oz
     have HWW:=Lib.hid (HW.out w2 (P+n2) hP2 hS2.out)
     generalize uZ (au s) (P+n2)=R3 at*
     go_wp2_with fail
     refine(HWW.out).mono ?_;rintro e w3 ⟨g3,h3⟩
     rcases R3 with⟨xs,q⟩|c3
     ·dsimp only at h3 hR2
      obtain⟨v3,rfl,o3,hB3⟩:=h3
      obtain⟨hq0,hx0,hxs⟩:=Oz.out xs q rfl
      rw[aC]at hq0
      have hS3:=Lib.hid (hS2.out.gr g3 hB3)
      have O3:=Lib.hid (bQ o2.out g3 (by omega))
      have S3:=Lib.hid (o3.sees aN)
      have hz3:Hid (w.heap.size+4<=w3.heap.size):=Lib.hid hS3.out.size
      have HXL:Hid (acc.length+xs.length<100000000000):=Lib.hid (by have:=hal.out;omega)
      clear g3 o3 hB3 hS2 o2 HWW hx0 hxs Oz
      obtain⟨va,vl,vc,rfl⟩:=aZ S3.out
      obtain⟨ua,ul,uc,rfl⟩:=aZ (O3.out.sees aN)
      go_wp2_with (at_builtin;refine rY _ rfl _ _ rfl (w.heap.size+4) _ _ acc xs rfl rfl O3.out S3.out HXL.out hz3.out ?e3)
      case e3=>
      intro v4 w4 uS hg4 hat
      have hS4:=Lib.hid (hS3.out.own hg4 (λk e=>O3.out.block k e))
      have O4:=Lib.hid uS
      clear uS hg4 hat hS3 O3 S3
      obtain⟨va4,vc4,e4,_⟩:=O4.out.form aN
      subst e4
      by_cases hle:((acc++xs).length:Int)<=most
      ·rw[if_pos hle]at hR2
       have hdec:decide (((acc++xs).length:Int)<=most)=true:=decide_eq_true hle
       generalize hAX:acc++xs=AX at*
       go_wp2_with fail
       refine(aV _ _ _).mono ?_;rintro e ww ⟨⟨_,rfl⟩|⟨h,rfl⟩,rfl⟩;rotate_left;exact absurd h (by simp[hle])
       go_wp2_with fail
       exact⟨⟨k+1,q,AX,by omega,hq0,by go_num,O4,Lib.hid (by omega),Lib.hid (by rw[show c-(k+1)=m from by have:=HMK.out;omega];exact hR2.out),hS4⟩,by simp[intOf];omega⟩
      ·rw[if_neg hle]at hR2
       have hdec:decide (((acc++xs).length:Int)<=most)=false:=decide_eq_false hle
       generalize hAX:acc++xs=AX at*
       go_wp2_with fail
       refine(aV _ _ _).mono ?_;rintro e ww ⟨⟨h,rfl⟩|⟨_,rfl⟩,rfl⟩
       ·exact absurd h (by simp[hle])
       ·unfold thrown
        go_wp2_with fail
        refine⟨rfl,hS4.out.below,?_⟩
        rw[<-hR2.out]
        rfl
     ·dsimp only at h3 hR2
      subst h3
      unfold thrown
      go_wp2_with fail
      refine⟨rfl,hS2.out.thrown g3,?_⟩
      rw[<-hR2.out]
      rfl
    ·rw[if_neg hk0]at hR2
     simp only[if_neg hk0]at Oz
     have hkb:((kind:Int)==0)=false:=by simp;omega
     by_cases hk1:kind=1
     ·subst hk1
      rw[if_pos rfl]at hR2
      simp only[if_true]at Oz
      have HGG:=Lib.hid (HG.out w2 (P+n2) hP2 hS2.out)
      generalize xG L os (au s) (P+n2)=R3 at*
      go_wp2_with fail
      refine(HGG.out).mono ?_;rintro e w3 ⟨g3,h3⟩
      rcases R3 with⟨xs,q⟩|c3
      ·dsimp only at h3 hR2
       obtain⟨v3,rfl,o3,hB3⟩:=h3
       obtain⟨hq0,hx0,hxs⟩:=Oz.out xs q rfl
       rw[aC]at hq0
       have hS3:=Lib.hid (hS2.out.gr g3 hB3)
       have O3:=Lib.hid (bQ o2.out g3 (by omega))
       have S3:=Lib.hid (o3.sees aN)
       have hz3:Hid (w.heap.size+4<=w3.heap.size):=Lib.hid hS3.out.size
       have HXL:Hid (acc.length+xs.length<100000000000):=Lib.hid (by have:=hal.out;omega)
       clear g3 o3 hB3 hS2 o2 HGG hx0 hxs Oz
       obtain⟨va,vl,vc,rfl⟩:=aZ S3.out
       obtain⟨ua,ul,uc,rfl⟩:=aZ (O3.out.sees aN)
       go_wp2_with (at_builtin;refine rY _ rfl _ _ rfl (w.heap.size+4) _ _ acc xs rfl rfl O3.out S3.out HXL.out hz3.out ?e3)
       case e3=>
       intro v4 w4 uS hg4 hat
       have hS4:=Lib.hid (hS3.out.own hg4 (λk e=>O3.out.block k e))
       have O4:=Lib.hid uS
       clear uS hg4 hat hS3 O3 S3
       obtain⟨va4,vc4,e4,_⟩:=O4.out.form aN
       subst e4
       by_cases hle:((acc++xs).length:Int)<=most
       ·rw[if_pos hle]at hR2
        have hdec:decide (((acc++xs).length:Int)<=most)=true:=decide_eq_true hle
        generalize hAX:acc++xs=AX at*
        go_wp2_with fail
        refine(aV _ _ _).mono ?_;rintro e ww ⟨⟨_,rfl⟩|⟨h,rfl⟩,rfl⟩;rotate_left;exact absurd h (by simp[hle])
        go_wp2_with fail
        exact⟨⟨k+1,q,AX,by omega,hq0,by go_num,O4,Lib.hid (by omega),Lib.hid (by rw[show c-(k+1)=m from by have:=HMK.out;omega];exact hR2.out),hS4⟩,by simp[intOf];omega⟩
       ·rw[if_neg hle]at hR2
        have hdec:decide (((acc++xs).length:Int)<=most)=false:=decide_eq_false hle
        generalize hAX:acc++xs=AX at*
        go_wp2_with fail
        refine(aV _ _ _).mono ?_;rintro e ww ⟨⟨h,rfl⟩|⟨_,rfl⟩,rfl⟩
        ·exact absurd h (by simp[hle])
        ·unfold thrown
         go_wp2_with fail
         refine⟨rfl,hS4.out.below,?_⟩
         rw[<-hR2.out]
         rfl
      ·dsimp only at h3 hR2
       subst h3
       unfold thrown
       go_wp2_with fail
       refine⟨rfl,hS2.out.thrown g3,?_⟩
       rw[<-hR2.out]
       rfl
     ·rw[if_neg hk1]at hR2
      have amm:((kind:Int)==1)=false:=by simp;omega
      go_wp2_with fail
      refine⟨rfl,hS2.out.below,?_⟩
      rw[<-hR2.out]
      rfl
   ·rw[hv]at h2
    dsimp only at h2
    subst h2
    have hR2:Hid (.er 2=RR):=Lib.hid (by
     rw[<-hR.out]
     show _=(match vt 0 0 ((au s).drop P)with| .short=>_| .form=>_| .ok kind n=>_)
     rw[hv])
    unfold thrown
    go_wp2_with fail
    refine⟨rfl,hS.out.thrown g2,?_⟩
    rw[<-hR2.out]
    rfl
   ·rw[hv]at h2
    dsimp only at h2
    subst h2
    have hR2:Hid (.er 3=RR):=Lib.hid (by
     rw[<-hR.out]
     show _=(match vt 0 0 ((au s).drop P)with| .short=>_| .form=>_| .ok kind n=>_)
     rw[hv])
    unfold thrown
    go_wp2_with fail
    refine⟨rfl,hS.out.thrown g2,?_⟩
    rw[<-hR2.out]
    rfl
  ·obtain rfl:k=c:=by omega
   obtain⟨l3,c3,f3⟩:=hS.out.rp.get
   rw[Nat.sub_self]at hR
   obtain⟨va,vl,vc,rfl⟩:=aZ (ho.out.sees aN)
   go_wp2_with fail
   refine(Dq (w.heap.size+1+1) s P _ hP hS.out.rd).mono ?_;rintro e w3 ⟨⟨hq,rfl⟩|⟨hq,rfl⟩,b3⟩
   ·have hR2:Hid (.ok acc P=RR):=Lib.hid (by rw[<-hR.out];show _=(if P=(au s).length then _ else _);rw[if_pos (by rw[aC];exact hq)])
    have hb3:=Lib.hid b3
    clear b3 c3 f3
    go_wp2_with fail
    go_ret
    refine⟨hS.out.below.trans (hb3.out.mono hS.out.below.size),?_⟩
    rw[<-hR2.out]
    exact⟨_,rfl,(ho.out.tr hb3.out).lift (by omega)⟩
   ·have hR2:Hid (.er 3=RR):=Lib.hid (by rw[<-hR.out];show _=(if P=(au s).length then _ else _);rw[if_neg (by rw[aC];exact hq)])
    unfold thrown
    go_wp2_with fail
    refine⟨rfl,hS.out.below.trans (b3.mono hS.out.below.size),?_⟩
    rw[<-hR2.out]
    rfl
 ·rw[hv]at h1 hRR
  dsimp only at h1 hRR
  subst h1
  unfold thrown
  go_wp2_with fail
  refine⟨rfl,hAS.out.thrown g1,?_⟩
  rw[<-hRR]
  rfl
 ·rw[hv]at h1 hRR
  dsimp only at h1 hRR
  subst h1
  unfold thrown
  go_wp2_with fail
  refine⟨rfl,hAS.out.thrown g1,?_⟩
  rw[<-hRR]
  rfl
end Go.Proofs.YtlncengggmgdgaaGreat.ps
namespace Go.Proofs.YtlncengggmgdgaaGreat.ps
open Go Go.RowKit cm cw gr hd lx ob hp
open fr (VT vt jl)
attribute [local irreducible] par.ah
set_option maxHeartbeats 4000000
inductive HdR where
 |ok (base cap tt cyc scan:Int)
 |er (c:Nat)
def Dw(l:List Nat):HdR:=
 match vt 0 0 (l.drop 0)with
 | .short=>.er 2
 | .form=>.er 3
 | .ok v n=>if v=1 then match lU l 5 n []with
   | .er c=>.er c
   | .ok xs q=>if q=l.length then if xs.getD 1 0<=4096/\xs.getD 4 0<=4096/\xs.getD 2 0<=1/\xs.getD 3 0<=1 then .ok (xs.getD 0 0) (xs.getD 1 0) (xs.getD 2 0) (xs.getD 3 0) (xs.getD 4 0)else .er 3 else .er 3
  else .er 5
def Qx(base cap tt cyc scan:Int):Value:=.agg #[.int .u64 base,.int .i64 cap,.int .i64 tt,.bool (cyc==1),.int .i64 scan,.slice none 0 0,.slice none 0 0,.slice none 0 0,.slice none 0 0,.slice none 0 0]
def XW(R:HdR)(w:World)(e:Ending)(w':World):Prop:=
 Below w.heap.size w w'/\match R with
  | .ok a b c d g=>e=.returned (Qx a b c d g)
  | .er c=>e=thrown c
theorem agO{l:List Nat}(hl:∀b∈l,b<256){p q:Nat}{xs:List Int}(hp:p<=l.length)(h:lU l 5 p []=.ok xs q):∃a b c d g:Int,xs=[a,b,c,d,g]/\(0<=a/\a<18446744073709551616)/\(0<=b/\b<18446744073709551616)/\(0<=c/\c<18446744073709551616)/\(0<=d/\d<18446744073709551616)/\(0<=g/\g<18446744073709551616)/\q<=l.length:=by
 have h1:=xA _ _ _ h
 have h2:=xw hl _ _ _ ⟨hp,Nat.zero_le _,λx hx=>by cases hx⟩ h
 match xs,h1 with
 |[a,b,c,d,g],_=>exact⟨a,b,c,d,g,rfl,h2.small a (by simp),h2.small b (by simp),h2.small c (by simp),h2.small d (by simp),h2.small g (by simp),h2.le⟩
theorem KF{w wr w':World}{B:Nat}(h:Below w.heap.size w wr)(hg:wr.grownBy w' (some B))(hB:w.heap.size<=B):Below w.heap.size w w':=
 dF (v:=.slice (some ⟨B,0,none⟩) 0 0) hg h (Nat.le_refl _) (λk e=>by have e:B=k:=Option.some.inj e;omega)
theorem TY(s:ByteArray)(w:World)(hs:s.size<10000000000):
  Calls (par.ah par.Hm) 91 #[.string s] w λe w'=>ku (match vt 0 0 ((au s).drop 0)with
   | .short=>.er 2
   | .form=>.er 3
   | .ok n p=>if n<=16 then match iG (au s) n p with
     | .er c=>.er c
     | .ok xs q=>if q=(au s).length then .ok xs q else .er 3
    else .er 3) w e w':=by
 generalize hRR:(match vt 0 0 ((au s).drop 0)with
   | .short=>rZ.er 2
   | .form=>.er 3
   | .ok n p=>if n<=16 then match iG (au s) n p with
     | .er c=>.er c
     | .ok xs q=>if q=(au s).length then .ok xs q else .er 3
    else .er 3)=RR
 have HV:=Lib.hid λv c(h:vt 0 0 ((au s).drop 0)=.ok v c)=>jl _ 0 0 (λb hb=>bP s b (List.mem_of_mem_drop hb)) (by decide) (by omega) h
 have hB0:Hid (aW (w.alloc (.cells #[.string s,.int .i64 0] 157)) w.heap.size (zK s 0) 157):=Lib.hid (aW.new _ _ _)
 have hb0:Hid (Below w.heap.size w (w.alloc (.cells #[.string s,.int .i64 0] 157))):=Lib.hid (by exact bm)
 go_enter (par.adK (H:=par.Hm)),Tryz.ntmps91
 go_wp2_with fail
 refine(kV w.heap.size s 0 _ hs (Nat.zero_le _) hB0.out).mono ?_;rintro e w1 ⟨g1,h1⟩
 have hb1:=Lib.hid (KF hb0.out g1 (Nat.le_refl _))
 rcases hv:vt 0 0 ((au s).drop 0)with⟨n,p⟩|_|_
 ·rw[hv]at h1 hRR
  dsimp only at h1 hRR
  obtain⟨rfl,hB1⟩:=h1
  obtain⟨hn0,hn1,hv1⟩:=HV.out n p hv
  rw[List.length_drop,aC]at hn1
  rw[Nat.zero_add]at hB1
  have hp:p<=s.size:=by omega
  have HB1:=Lib.hid hB1
  clear hv hB1 g1 HV hB0 hb0 hn0 hn1
  by_cases hn:n<=16
  ·rw[if_pos hn]at hRR
   have hnd:decide ((n:Int)<=16)=true:=decide_eq_true (by omega)
   go_wp2_with fail
   refine(aV _ _ _).mono ?_;rintro e ww ⟨⟨_,rfl⟩|⟨h,rfl⟩,rfl⟩;rotate_left;exact absurd h (by first|(simp;done)|(simp;omega))
   go_wp2_with fail
   refine(Fv w.heap.size s p n _ hs hp (by omega) HB1.out).mono ?_;rintro e w2 ⟨g2,h2⟩
   have hb2:=Lib.hid (KF hb1.out g2 (Nat.le_refl _))
   rcases hrf:iG (au s) n p with⟨xs,q⟩|c
   ·rw[hrf]at h2 hRR
    dsimp only at h2 hRR
    obtain⟨v,rfl,ho,hB2⟩:=h2
    have hq:=(Dt (bP s) (by rw[aC];exact hp) hrf).le
    rw[aC]at hq hRR
    have HO:=Lib.hid ho
    have HB2:=Lib.hid hB2
    have hw1:Hid (w.heap.size<=w1.heap.size):=Lib.hid hb1.out.size
    clear ho hB2 g2 hrf
    obtain⟨va,vl,vc,rfl⟩:=aZ (HO.out.sees aN)
    go_wp2_with fail
    refine(Dq w.heap.size s q _ hq HB2.out).mono ?_;rintro e w3 ⟨⟨hqe,rfl⟩|⟨hqe,rfl⟩,b3⟩
    ·rw[if_pos hqe]at hRR
     have hb3:=Lib.hid b3
     have HRR:=Lib.hid hRR
     clear b3 hRR
     go_wp2_with fail
     go_ret
     refine⟨hb2.out.trans (hb3.out.mono hb2.out.size),?_⟩
     rw[<-HRR.out]
     exact⟨_,rfl,(HO.out.tr hb3.out).lift hw1.out⟩
    ·rw[if_neg hqe]at hRR
     unfold thrown
     go_wp2_with fail
     refine⟨rfl,hb2.out.trans (b3.mono hb2.out.size),?_⟩
     rw[<-hRR]
     rfl
   ·rw[hrf]at h2 hRR
    dsimp only at h2 hRR
    subst h2
    unfold thrown
    go_wp2_with fail
    refine⟨rfl,hb2.out,?_⟩
    rw[<-hRR]
    rfl
  ·rw[if_neg hn]at hRR
   have hnd:decide ((n:Int)<=16)=false:=decide_eq_false (by omega)
   go_wp2_with fail
   refine(aV _ _ _).mono ?_;rintro e ww ⟨⟨h,rfl⟩|⟨_,rfl⟩,rfl⟩
   ·exact absurd h (by first|(simp;done)|(simp;omega))
   ·unfold thrown
    go_wp2_with fail
    refine⟨rfl,hb1.out,?_⟩
    rw[<-hRR]
    rfl
 ·rw[hv]at h1 hRR
  dsimp only at h1 hRR
  subst h1
  unfold thrown
  go_wp2_with fail
  refine⟨rfl,hb1.out,?_⟩
  rw[<-hRR]
  rfl
 ·rw[hv]at h1 hRR
  dsimp only at h1 hRR
  subst h1
  unfold thrown
  go_wp2_with fail
  refine⟨rfl,hb1.out,?_⟩
  rw[<-hRR]
  rfl
theorem KI(s:ByteArray)(w:World)(hs:s.size<10000000000):
  Calls (par.ah par.Hm) 90 #[.string s] w λe w'=>XW (Dw (au s)) w e w':=by
 generalize hRR:Dw (au s)=RR
 unfold Dw at hRR
 have HV:=Lib.hid λv c(h:vt 0 0 ((au s).drop 0)=.ok v c)=>jl _ 0 0 (λb hb=>bP s b (List.mem_of_mem_drop hb)) (by decide) (by omega) h
 have hB0:Hid (aW ((w.alloc (.cells #[.int .u64 0,.int .i64 0,.int .i64 0,.bool false,.int .i64 0,.slice none 0 0,.slice none 0 0,.slice none 0 0,.slice none 0 0,.slice none 0 0] 34)).alloc (.cells #[.string s,.int .i64 0] 157)) (w.heap.size+1) (zK s 0) 157):=Lib.hid (by unfold zK;exact bk)
 have hH0:Hid (aW ((w.alloc (.cells #[.int .u64 0,.int .i64 0,.int .i64 0,.bool false,.int .i64 0,.slice none 0 0,.slice none 0 0,.slice none 0 0,.slice none 0 0,.slice none 0 0] 34)).alloc (.cells #[.string s,.int .i64 0] 157)) w.heap.size #[.int .u64 0,.int .i64 0,.int .i64 0,.bool false,.int .i64 0,.slice none 0 0,.slice none 0 0,.slice none 0 0,.slice none 0 0,.slice none 0 0] 34):=Lib.hid (by exact bk)
 have hb0:Hid (Below w.heap.size w ((w.alloc (.cells #[.int .u64 0,.int .i64 0,.int .i64 0,.bool false,.int .i64 0,.slice none 0 0,.slice none 0 0,.slice none 0 0,.slice none 0 0,.slice none 0 0] 34)).alloc (.cells #[.string s,.int .i64 0] 157))):=Lib.hid (by exact bm)
 go_enter (par.adJ (H:=par.Hm)),Tryz.ntmps90
 go_wp2_with fail
 refine(kV (w.heap.size+1) s 0 _ hs (Nat.zero_le _) hB0.out).mono ?_;rintro e w1 ⟨g1,h1⟩
 have hb1:=Lib.hid (KF hb0.out g1 (Nat.le_succ _))
 have hH1:=Lib.hid (iO hH0.out g1 (λe=>by have e:=Option.some.inj e;omega))
 rcases hv:vt 0 0 ((au s).drop 0)with⟨v,n⟩|_|_
 ·rw[hv]at h1 hRR
  dsimp only at h1 hRR
  obtain⟨rfl,hB1⟩:=h1
  obtain⟨hn0,hn1,hv1⟩:=HV.out v n hv
  rw[List.length_drop,aC]at hn1
  rw[Nat.zero_add]at hB1
  have hp:n<=s.size:=by omega
  have HB1:=Lib.hid hB1
  clear hv hB1 g1 HV hB0 hb0 hH0 hn0 hn1
  by_cases hv1:v=1
  ·rw[if_pos hv1]at hRR
   subst hv1
   go_wp2_with fail
   refine(aV _ _ _).mono ?_;rintro e ww ⟨⟨_,rfl⟩|⟨h,rfl⟩,rfl⟩;rotate_left;exact absurd h (by decide)
   go_wp2_with fail
   refine(su (w.heap.size+1) s n 5 _ hs hp (by omega) HB1.out).mono ?_;rintro e w2 ⟨g2,h2⟩
   have hb2:=Lib.hid (KF hb1.out g2 (Nat.le_succ _))
   have hH2:=Lib.hid (iO hH1.out g2 (λe=>by have e:=Option.some.inj e;omega))
   rcases hrf:lU (au s) 5 n []with⟨xs,q⟩|c
   ·rw[hrf]at h2 hRR
    dsimp only at h2 hRR
    obtain⟨v2,rfl,ho,hB2⟩:=h2
    obtain⟨a,b,c,d,g,rfl,ha,hbb,hc,hd,hg,hq⟩:=agO (bP s) (by rw[aC];exact hp) hrf
    rw[aC]at hq hRR
    simp only[List.getD_cons_zero,List.getD_cons_succ]at hRR
    have HB2:=Lib.hid hB2
    obtain⟨ad,bb,off,cap,hv,i1,i2,i3,i4,i5,i6⟩:=(ho.sees aN).form
    obtain rfl:=i1 (by simp)
    replace hv:v2=.slice (some ⟨bb,off,none⟩) 5 cap:=hv
    subst hv
    have q0:w2.cell? ⟨bb,off,none⟩=some (.int .u64 a):=by simpa using i6.at (i:=0) (x:=a) rfl 0 _ rfl
    have q1:w2.cell? ⟨bb,off+1,none⟩=some (.int .u64 b):=by simpa using i6.at (i:=1) (x:=b) rfl 0 _ rfl
    have q2:w2.cell? ⟨bb,off+2,none⟩=some (.int .u64 c):=by simpa using i6.at (i:=2) (x:=c) rfl 0 _ rfl
    have q3:w2.cell? ⟨bb,off+3,none⟩=some (.int .u64 d):=by simpa using i6.at (i:=3) (x:=d) rfl 0 _ rfl
    have q4:w2.cell? ⟨bb,off+4,none⟩=some (.int .u64 g):=by simpa using i6.at (i:=4) (x:=g) rfl 0 _ rfl
    clear ho hB2 g2 hrf i1 i2 i5 i6
    go_wp2_with fail
    refine(Dq (w.heap.size+1) s q _ hq HB2.out).mono ?_;rintro e w3 ⟨⟨hqe,rfl⟩|⟨hqe,rfl⟩,b3⟩
    ·rw[if_pos hqe]at hRR
     replace q0:=aJ b3 q0
     replace q1:=aJ b3 q1
     replace q2:=aJ b3 q2
     replace q3:=aJ b3 q3
     replace q4:=aJ b3 q4
     have hb3:=Lib.hid (hb2.out.trans (b3.mono hb2.out.size))
     have hH3:=hH2.out.tr b3
     clear b3
     go_wp2_with fail
     go_region_held3 (λw'=>w'.cell? ⟨bb,off,none⟩=some (.int .u64 a)/\w'.cell? ⟨bb,off+1,none⟩=some (.int .u64 b)/\w'.cell? ⟨bb,off+2,none⟩=some (.int .u64 c)/\w'.cell? ⟨bb,off+3,none⟩=some (.int .u64 d)/\w'.cell? ⟨bb,off+4,none⟩=some (.int .u64 g)) (go_keep) (fail)
     clear q0 q1 q2 q3 q4
     have K3:=hH3
     have hd3:Hid (Below w.heap.size w w3.drew):=Lib.hid hb3.out.drew
     by_cases x1:b<=4096
     ·by_cases x2:g<=4096
      ·by_cases x3:c<=1
       ·by_cases x4:d<=1
        ·rw[if_pos ⟨x1,x2,x3,x4⟩]at hRR
         have y1:IntKind.i64.wrap b=b:=by rw[IntKind.wrap_i64];omega
         have y2:IntKind.i64.wrap g=g:=by rw[IntKind.wrap_i64];omega
         have y3:IntKind.i64.wrap c=c:=by rw[IntKind.wrap_i64];omega
         have HRR:=Lib.hid hRR
         clear hRR
         obtain⟨l3,c3,f3⟩:=K3.get
         go_wp2_with fail
         refine(aV _ _ _).mono ?_;rintro e ww ⟨⟨_,rfl⟩|⟨h,rfl⟩,rfl⟩;rotate_left;exact absurd h (by simp[x4])
         go_wp2_with fail
         refine bodyPost_ret (v:=Qx a b c d g) (by simp only[results,Tryz.results90,Qx];go_simp) rfl ⟨?_,?_⟩
         ·have amn:=hb3.out
          exact bm
         ·rw[<-HRR.out]
        ·rw[if_neg (λh=>x4 h.2.2.2)]at hRR
         go_wp2_with fail
         refine(aV _ _ _).mono ?_;rintro e ww ⟨⟨h,rfl⟩|⟨_,rfl⟩,rfl⟩
         ·exact absurd h (by first|(simp;done)|(simp;omega))
         ·unfold thrown
          go_wp2_with fail
          refine⟨rfl,hd3.out,?_⟩
          rw[<-hRR]
          rfl
       ·rw[if_neg (λh=>x3 h.2.2.1)]at hRR
        go_wp2_with fail
        refine(aV _ _ _).mono ?_;rintro e ww ⟨⟨h,rfl⟩|⟨_,rfl⟩,rfl⟩
        ·exact absurd h (by first|(simp;done)|(simp;omega))
        ·unfold thrown
         go_wp2_with fail
         refine⟨rfl,hd3.out,?_⟩
         rw[<-hRR]
         rfl
      ·rw[if_neg (λh=>x2 h.2.1)]at hRR
       go_wp2_with fail
       refine(aV _ _ _).mono ?_;rintro e ww ⟨⟨h,rfl⟩|⟨_,rfl⟩,rfl⟩
       ·exact absurd h (by first|(simp;done)|(simp;omega))
       ·unfold thrown
        go_wp2_with fail
        refine⟨rfl,hd3.out,?_⟩
        rw[<-hRR]
        rfl
     ·rw[if_neg (λh=>x1 h.1)]at hRR
      go_wp2_with fail
      refine(aV _ _ _).mono ?_;rintro e ww ⟨⟨h,rfl⟩|⟨_,rfl⟩,rfl⟩
      ·exact absurd h (by first|(simp;done)|(simp;omega))
      ·unfold thrown
       go_wp2_with fail
       refine⟨rfl,hd3.out,?_⟩
       rw[<-hRR]
       rfl
    ·rw[if_neg hqe]at hRR
     unfold thrown
     go_wp2_with fail
     refine⟨rfl,hb2.out.trans (b3.mono hb2.out.size),?_⟩
     rw[<-hRR]
     rfl
   ·rw[hrf]at h2 hRR
    dsimp only at h2 hRR
    subst h2
    unfold thrown
    go_wp2_with fail
    refine⟨rfl,hb2.out,?_⟩
    rw[<-hRR]
    rfl
  ·rw[if_neg hv1]at hRR
   have hnd:((v:Int)==1)=false:=by simp;omega
   go_wp2_with fail
   refine(aV _ _ _).mono ?_;rintro e ww ⟨⟨h,rfl⟩|⟨_,rfl⟩,rfl⟩
   ·exact absurd h (by first|(simp;done)|(simp;omega))
   ·unfold thrown
    go_wp2_with fail
    refine⟨rfl,hb1.out,?_⟩
    rw[<-hRR]
    rfl
 ·rw[hv]at h1 hRR
  dsimp only at h1 hRR
  subst h1
  unfold thrown
  go_wp2_with fail
  refine⟨rfl,hb1.out,?_⟩
  rw[<-hRR]
  rfl
 ·rw[hv]at h1 hRR
  dsimp only at h1 hRR
  subst h1
  unfold thrown
  go_wp2_with fail
  refine⟨rfl,hb1.out,?_⟩
  rw[<-hRR]
  rfl
end Go.Proofs.YtlncengggmgdgaaGreat.ps
namespace Go.Proofs.YtlncengggmgdgaaGreat.ps
open Go Go.RowKit cm cw gr hd lx ob hp
attribute [local irreducible] par.ah
set_option maxHeartbeats 4000000
attribute [local go_sem] Oper.semAt_some
theorem eq_nil(W:World):Sem.run (par.ah par.Hm) (binOp .eql 20 .nilIface .nilIface) W=.ok (.bool true) W:=by kernel_rfl
theorem Qy(k:Int)(W:World):Sem.run (par.ah par.Hm) (binOp .eql 20 (.iface 145 (.agg #[.int .i64 k])) .nilIface) W=.ok (.bool false) W:=by kernel_rfl
theorem xI(k:Int)(W:World):Sem.run (par.ah par.Hm) (Instr.typeAssert (.iface 145 (.agg #[.int .i64 k])) 20 145 true) W=.ok (.tuple #[.agg #[.int .i64 k],.bool true]) W:=by kernel_rfl
theorem XY(n:Nat)(q:Addr)(w:World):
  CallsDIn Fence.wide n (par.ah par.Hm) 99 #[.pointer (some q)] .returning w λe u' w'=>e=.returned (.tuple #[])/\u'=.returning/\w'=w:=by
 refine callsDIn_of_wpSIn par.Xo rfl trivial λc₀ cs hu=> ?_
 apply wpSIn_seq
 apply wpSIn_region
 simp[wpOpsSIn,go_sem,recoverD,hu,Tryz.ntmps99,Exit.thenS]
 have hnn:=eq_nil
 refine wpSIn_of_wpIn rfl ?_
 show Code.wpIn _ _ _ _ _ {tmps:= #[.pointer (some q),undef,undef,undef,.nilIface,undef,undef,undef,undef,undef,undef,undef],defers:=[]} w
 gi_wp2
 exact⟨rfl,.returning,by cases c₀;simp_all,_,results_none rfl _ _ _,rfl,rfl,rfl⟩
theorem OA(n:Nat)(q:Nat)(y:Value)(k:Int)(w:World)(hq:aW w q #[y] 36):
  CallsDIn Fence.wide n (par.ah par.Hm) 99 #[.pointer (some ⟨q,0,none⟩)] (.panicking [{v:=uX k,recovered:=false}]) w λe u' w'=>e=.returned (.tuple #[])/\u'=.panicking [{v:=uX k,recovered:=true}]/\aW w' q #[.int .i64 k] 36/\w.grownBy w' (some q):=by
 refine callsDIn_of_wpSIn par.Xo rfl trivial λc₀ cs hu=> ?_
 unfold uX at*
 obtain⟨lq,cq,fq⟩:=hq.get
 have cq0:=cq 0
 apply wpSIn_seq
 apply wpSIn_region
 simp[wpOpsSIn,go_sem,recoverD,hu,Tryz.ntmps99,Exit.thenS]
 have hnn:=Qy k
 refine wpSIn_of_wpIn rfl ?_
 show Code.wpIn _ _ _ _ _ {tmps:= #[.pointer (some ⟨q,0,none⟩),undef,undef,undef,.iface 145 (.agg #[.int .i64 k]),undef,undef,undef,undef,undef,undef,undef],defers:=[]} w
 have hta:=xI k
 have hn1:q≠w.heap.size:=by omega
 have hn4:w.heap.size≠q:=by omega
 gi_wp2
 refine⟨rfl,_,rfl,_,results_none rfl _ _ _,rfl,rfl,?_,?_⟩
 ·exact(hq.set 0 _).alloc _
 ·exact jZ (eH _ _ _ _) _
def Fz(R:rZ)(w:World)(e:Ending)(w':World):Prop:=
 Below w.heap.size w w'/\match R with
  | .ok xs q=>∃v,e=.returned (.tuple #[v,.int .i64 0])/\aX 24 1 nH w' w.heap.size v xs
  | .er c=>e=.returned (.tuple #[.slice none 0 0,.int .i64 (c:Int)])
theorem Ib(caps:Array Value)(R:rZ)(w:World)
  (H:Calls (par.ah par.Hm) 56 caps (w.alloc (.cells #[.int .i64 0] 36)) λe w'=>ku R (w.alloc (.cells #[.int .i64 0] 36)) e w'):
  Calls (par.ah par.Hm) 55 #[.func (.func 56) #[] caps] w λe w'=>Fz R w e w':=by
 have hmf:∀(fn:Fn)(first cap:Array Value)(w:World),(Instr.makeFunc fn first cap).run (par.ah par.Hm) w=.ok (.func fn first cap) w:=λ_ _ _ _=>rfl
 have HH:=Lib.hid H
 clear H
 refine(callsIn_wide (n:=5)).1 ?_
 refine callsIn_of_wp_marks (par.adn (H:=par.Hm)) rfl trivial ?_ rfl
 simp only[Tryz.ntmps55,List.size_toArray,List.length_cons,List.length_nil,Nat.reduceAdd,Nat.reduceSub,Array.replicate_succ,Array.replicate_zero,List.push_toArray,List.append_toArray,List.nil_append,List.cons_append]
 gi_wp2_with fail
 refine⟨trivial,(callsIn_wide.2 HH.out).mono ?_⟩;rintro e w1 ⟨b1,h1⟩
 have KE:aW w1 w.heap.size #[.int .i64 0] 36:=(aW.new w #[.int .i64 0] 36).tr b1
 have hb1:Hid (Below w.heap.size w w1):=Lib.hid (by exact bm)
 have hwl:Hid (w.heap.size+1<=w1.heap.size):=Lib.hid (by have:=b1.size;simpa using this)
 rcases R with⟨xs,q⟩|c
 ·obtain⟨v,rfl,ho⟩:=h1
  have HO:=Lib.hid ho
  clear ho HH b1
  obtain⟨lE,cE,fE⟩:=KE.get
  have cE0:=cE 0
  gi_wp2_with fail
  refine⟨by simp,.inr ⟨λ_=>by omega,_,_,99,#[.pointer (some ⟨w.heap.size,0,none⟩)],rfl,by simp[invoke,go_sem],λ_ _=>trivial,(XY _ _ _).mono ?_⟩⟩
  rintro e u' w'' ⟨rfl,rfl,rfl⟩
  obtain⟨zl,zc,zf⟩:=(KE.set 0 (.int .i64 0)).get
  have zc0:=zc 0
  refine⟨.tuple #[v,.int .i64 0],by simp only[results,Tryz.results55];go_simp,?_,v,rfl,?_⟩
  ·have hbb:=hb1.out
   exact bm
  ·exact(bQ HO.out (eH _ _ _ _) (by simp)).lift (by simp)
 ·dsimp only at h1
  subst h1
  unfold thrown
  clear HH b1
  gi_wp2_with fail
  refine⟨by simp,.inr ⟨λ_=>by omega,_,_,99,#[.pointer (some ⟨w.heap.size,0,none⟩)],rfl,by simp[invoke,go_sem],λ_ _=>trivial,(OA _ _ _ _ _ KE).mono ?_⟩⟩
  rintro e u' w'' ⟨rfl,rfl,qe,qk⟩
  obtain⟨zl,zc,zf⟩:=qe.get
  have zc0:=zc 0
  refine⟨.tuple #[.slice none 0 0,.int .i64 (c:Int)],by simp only[results,Tryz.results55];go_simp,?_,rfl⟩
  exact dF (v:=.slice (some ⟨w.heap.size,0,none⟩) 0 0) qk hb1.out (Nat.le_refl _) (λk e=>by have e:w.heap.size=k:=Option.some.inj e;omega)
theorem Ua(s:ByteArray)(most:Int)(w W:World)(L:Lay)(u:Value)(R:rZ)(hw:Below w.heap.size w W)(n:Nat)
  (K0:aW W n #[.string s] 9) (K1:aW W (n+1) #[.int .i64 most] 3) (K2:aW W (n+1+1) (Ia L) 30) (K3:aW W (n+1+1+1) #[u] 28)
  (H:∀W,Below w.heap.size w W->Calls (par.ah par.Hm) 57 #[.string s,.int .i64 most,kP L,u] W λe w'=>ku R W e w') (hu:∃a l c,u=.slice a l c):
  Calls (par.ah par.Hm) 56 #[.pointer (some ⟨n,0,none⟩),.pointer (some ⟨n+1,0,none⟩),.pointer (some ⟨n+1+1,0,none⟩),.pointer (some ⟨n+1+1+1,0,none⟩)] W λe w'=>ku R W e w':=by
 have HH:=Lib.hid (H W hw)
 clear H hw
 obtain⟨a,l,c,rfl⟩:=hu
 unfold Ia at K2
 unfold kP at HH
 obtain⟨base,cp,tt,low,high,old,far⟩:=L
 dsimp only at*
 obtain⟨l0,c0,f0⟩:=K0.get
 obtain⟨l1,c1,f1⟩:=K1.get
 obtain⟨l2,c2,f2⟩:=K2.get
 obtain⟨l3,c3,f3⟩:=K3.get
 go_enter (par.ado (H:=par.Hm)),Tryz.ntmps56
 go_wp2_with fail
 refine HH.out.mono ?_;rintro e w1 ⟨b1,h1⟩
 rcases R with⟨xs,q⟩|c
 ·obtain⟨v,rfl,ho⟩:=h1
  have O:=Lib.hid ho
  clear ho
  go_wp2_with fail
  go_ret
  exact⟨b1,v,rfl,O.out⟩
 ·dsimp only at h1
  subst h1
  unfold thrown
  go_wp2_with fail
  exact⟨rfl,b1,rfl⟩
theorem qI(s:ByteArray)(most:Int)(w:World)(L:Lay)(os:List Ob)(ad:Option Addr)(b off cap:Nat)(hs:s.size<10000000000)(hm0: -9223372036854775808<=most)(hm:most<10000000000)(ok:L.ok)
  (had:0<os.length->ad=some ⟨b,off,none⟩) (hlc:os.length<=cap) (hcap:cap<9223372036854775808) (hbw:b<w.heap.size) (hos:fZ w b off os.length os):
  Calls (par.ah par.Hm) 20 #[.string s,.int .i64 most,kP L,.slice ad os.length cap] w λe w'=>Fz (nD L os (au s) most) w e w':=by
 have hmf:∀(fn:Fn)(first cap:Array Value)(w:World),(Instr.makeFunc fn first cap).run (par.ah par.Hm) w=.ok (.func fn first cap) w:=λ_ _ _ _=>rfl
 have HA:=Lib.hid λW(hb:Below w.heap.size w W)=>xH s most W L os ad b off cap hs hm0 hm ok had hlc hcap (Nat.lt_of_lt_of_le hbw hb.size) (hos.block (hb.block b hbw))
 clear had hlc hcap hbw hos ok
 generalize hR:nD L os (au s) most=R at*
 have HR:=Lib.hid hR
 clear hR
 have aem:kP L=.agg (Ia L):=rfl
 have HT:=Lib.hid λW' hw' K0 K1 K2 K3=>Ua s most w W' L (.slice ad os.length cap) R hw' w.heap.size K0 K1 K2 K3 HA.out ⟨_,_,_,rfl⟩
 rw[aem]
 unfold Ia at*
 obtain⟨base,cp,tt,low,high,old,far⟩:=L
 dsimp only at*
 clear HA aem
 go_enter (par.ac5 (H:=par.Hm)),Tryz.ntmps20
 go_wp2_with fail
 refine(Ib _ R _ ?_).mono ?_
 ·refine HT.out _ ?_ ?_ ?_ ?_ ?_
  ·exact bm
  ·exact bk
  ·exact bk
  ·exact bk
  ·exact bk
 rintro e w1 ⟨b1,h1⟩
 have hb1:Hid (Below w.heap.size w w1):=Lib.hid (by exact bm)
 have hsz:Hid (w.heap.size<=w.heap.size+4):=Lib.hid (by omega)
 rcases R with⟨xs,q⟩|c
 ·obtain⟨v,rfl,ho⟩:=h1
  have O:=Lib.hid ho
  clear ho
  go_wp2_with fail
  go_ret2
  exact⟨hb1.out,v,rfl,O.out.lift (by simp)⟩
 ·dsimp only at h1
  subst h1
  go_wp2_with fail
  go_ret2
  exact⟨hb1.out,rfl⟩
end Go.Proofs.YtlncengggmgdgaaGreat.ps
