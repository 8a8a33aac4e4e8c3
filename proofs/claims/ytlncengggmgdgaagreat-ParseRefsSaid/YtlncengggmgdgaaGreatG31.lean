/- parse.image: what it says. LONE=M. No conditions. -/
import Derived.Test.YtlncengggmgdgaaGreatG22
import Derived.Test.YtlncengggmgdgaaGreatG29
import Derived.Test.YtlncengggmgdgaaGreatG26
import Derived.Test.YtlncengggmgdgaaGreatG30
set_option linter.unusedVariables false
set_option linter.unusedSimpArgs false
set_option maxRecDepth 100000
namespace Go.Proofs.YtlncengggmgdgaaGreat.ps
open Go Go.RowKit cm cw gr hd lx ob hp
open fr (VT vt jl gQ jo)
attribute [local irreducible] par.ah
set_option maxHeartbeats 4000000
structure PH where
 base:Int
 cap:Int
 tt:Int
 cyc:Int
 scan:Int
 low:List Int
 high:List Int
 old:List Int
 far:List Int
 roots:List Int
inductive Ud where
 |ok (h:PH)
 |er (c:Nat)
def OG(l:List Nat):rZ:=match vt 0 0 (l.drop 0)with
 | .short=>.er 2
 | .form=>.er 3
 | .ok n p=>if n<=16 then match iG l n p with
   | .er c=>.er c
   | .ok xs q=>if q=l.length then .ok xs q else .er 3
  else .er 3
def L0:Lay:=⟨0,0,0,0,0,0,0⟩
def vw(fs:List (Int×ByteArray))(i:Nat):ByteArray:=(fs.getD i (0,⟨#[]⟩)).2
def Ie(fs:List (Int×ByteArray)):Ud:=
 match Dw (au (vw fs 0))with
 | .er c=>.er c
 | .ok a b c d g=>match OG (au (vw fs 1))with
  | .er c=>.er c
  | .ok rs _=>match nD L0 [] (au (vw fs 2)) b with
   | .er c=>.er c
   | .ok low _=>match nD L0 [] (au (vw fs 3)) b with
    | .er c=>.er c
    | .ok high _=>match newF low with
     | .err _ _=>.er 3
     | .ok os _=>match nD ⟨a,b,c,low.length,0,0,0⟩ os (au (vw fs 4)) b with
      | .er c=>.er c
      | .ok old _=>match nD ⟨a,b,c,low.length,0,0,0⟩ os (au (vw fs 5)) b with
       | .er c=>.er c
       | .ok far _=>.ok ⟨a,b,c,d,g,low,high,old,far,rs⟩
def iR(s:ByteArray):Ud:=
 if(gQ s).2=0 then if(gQ s).1.length=6 then if∀i:Nat,i<6->((gQ s).1.getD i (0,⟨#[]⟩)).1=(i:Int)+1 then Ie (gQ s).1 else .er 3 else .er 3
 else .er (gQ s).2.toNat
def acd(W:World)(B:Nat)(v:Value)(h:PH):Prop:=∃lv hv ov fv rv,v=.agg #[.int .u64 h.base,.int .i64 h.cap,.int .i64 h.tt,.bool (h.cyc==1),.int .i64 h.scan,lv,hv,ov,fv,rv]/\
 aX 24 1 nH W B lv h.low/\aX 24 1 nH W B hv h.high/\aX 24 1 nH W B ov h.old/\aX 24 1 nH W B fv h.far/\aX 24 1 nH W B rv h.roots
def Ig(R:Ud)(w:World)(e:Ending)(w':World):Prop:=
 Below w.heap.size w w'/\match R with
  | .ok h=>∃v,e=.returned v/\acd w' w.heap.size v h
  | .er c=>e=thrown c
theorem QA{L:Lay}{os:List Ob}{l:List Nat}{most:Int}(hl:∀b∈l,b<256):∀(k p:Nat)(acc:List Int){xs:List Int}{q:Nat},p<=l.length->(∀x∈acc,0<=x/\x<18446744073709551616)->Oy L os l most k p acc=.ok xs q->(∀x∈xs,0<=x/\x<18446744073709551616)/\(xs=acc\/(xs.length:Int)<=most)
 |0,p,acc,xs,q,hp,ha,h=>by
  unfold Oy at h
  split at h
  ·cases h;exact⟨ha,.inl rfl⟩
  ·cases h
 |k+1,p,acc,xs,q,hp,ha,h=>by
  unfold Oy at h
  split at h
  ·cases h
  ·cases h
  ·rename_i kind n hv
   have h2:=jl _ 0 0 (λb hb=>hl b (List.mem_of_mem_drop hb)) (by decide) (by omega) hv
   rw[List.length_drop]at h2
   split at h
   ·cases h
   ·rename_i ys q' ho
    obtain⟨h3,h4,h5⟩:=Qw hl (by omega) ho
    split at h
    ·rename_i hle
     obtain⟨h6,h7⟩:=QA hl k q' (acc++ys) h3 (λx hx=>(List.mem_append.1 hx).elim (ha x) (h5 x)) h
     refine⟨h6,.inr ?_⟩
     rcases h7 with rfl|h7
     ·exact hle
     ·exact h7
    ·cases h
theorem QB{L:Lay}{os:List Ob}{l:List Nat}{most:Int}(hl:∀b∈l,b<256){xs:List Int}{q:Nat}(h:nD L os l most=.ok xs q):(∀x∈xs,0<=x/\x<18446744073709551616)/\(xs=[]\/(xs.length:Int)<=most):=by
 unfold nD at h
 split at h
 ·cases h
 ·cases h
 ·rename_i c n hv
  have h2:=jl _ 0 0 (λb hb=>hl b (List.mem_of_mem_drop hb)) (by decide) (by omega) hv
  rw[List.length_drop]at h2
  exact QA hl c n [] (by omega) (λx hx=>by cases hx) h
theorem Yb{l:List Nat}(hl:∀b∈l,b<256){a b c d g:Int}(h:Dw l=.ok a b c d g):(0<=a/\a<18446744073709551616)/\(0<=b/\b<=4096)/\(0<=c/\c<=1)/\(0<=d/\d<=1)/\(0<=g/\g<=4096):=by
 unfold Dw at h
 split at h
 ·cases h
 ·cases h
 ·rename_i v n hv
  have h2:=jl _ 0 0 (λb hb=>hl b (List.mem_of_mem_drop hb)) (by decide) (by omega) hv
  rw[List.length_drop]at h2
  split at h
  ·split at h
   ·cases h
   ·rename_i xs q hr
    obtain⟨a',b',c',d',g',rfl,ha,hb,hc,hd,hg,_⟩:=agO hl (by omega) hr
    simp only[List.getD_cons_zero,List.getD_cons_succ]at h
    split at h
    ·split at h
     ·rename_i hx
      cases h
      omega
     ·cases h
    ·cases h
  ·cases h
theorem abb(s:ByteArray):(gQ s).2=0\/(gQ s).2=2\/(gQ s).2=3\/(gQ s).2=4:=by
 unfold gQ
 have:=fr.Uc (au s) _ 0 (Nat.le_refl _)
 split
 ·split
  ·exact .inl rfl
  ·rename_i h;rcases this with h1|h1|h1
   ·exact absurd h1 h
   ·exact .inr (.inl h1)
   ·exact .inr (.inr (.inl h1))
 ·exact .inr (.inr (.inr rfl))
theorem OH(s:ByteArray):∀f∈(gQ s).1,f.2.size<=s.size:=by
 unfold gQ
 intro f hf
 split at hf
 ·split at hf
  ·obtain⟨c,_,rfl⟩:=List.mem_map.1 hf
   simp[fr.yP]
   omega
  ·cases hf
 ·cases hf
theorem Ue{W:World}{B q:Nat}{v:Value}{l:List Ob}(h:rX W B v l)(h0:0<W.heap.size)(hl:l.length<1000000000000)(hq:0<q/\q<B):
  ∃(ad:Option Addr)(b off cap:Nat),v=.slice ad l.length cap/\(0<l.length->ad=some ⟨b,off,none⟩)/\l.length<=cap/\cap<9223372036854775808/\b<W.heap.size/\fZ W b off l.length l/\b≠q:=by
 obtain⟨ad,b,off,cap,hv,⟨s1,s2⟩,s3,⟨s4,_⟩,s5,s6⟩:=XJ h h0 hl
 rcases Nat.eq_zero_or_pos l.length with hz|hz
 ·exact⟨ad,0,0,cap,hv,λh=>by omega,s3,s4,h0,by rw[hz];exact fZ.none _ _ _ _,by omega⟩
 ·refine⟨ad,b,off,cap,hv,s1,s3,s4,s5,s6,?_⟩
  rcases h.2 with⟨_,h1⟩|⟨g,cap',cur,e1,h1,_⟩
  ·omega
  ·rw[hv,s1 hz]at e1
   injection e1 with e2
   injection e2 with e3
   injection e3 with e4
   omega
theorem DF(s:ByteArray)(w:World)(hs:s.size<10000000000):Calls (par.ah par.Hm) 91 #[.string s] w λe w'=>ku (OG (au s)) w e w':=TY s w hs
end Go.Proofs.YtlncengggmgdgaaGreat.ps
namespace Go.Proofs.YtlncengggmgdgaaGreat.ps
open Go Go.RowKit cm cw gr hd lx ob hp
open fr (gQ jo)
attribute [local irreducible] par.ah
set_option maxHeartbeats 4000000
theorem oW{W wr:World}{b off n cap i:Nat}{fs:List (Int×ByteArray)}(hb:Below W.heap.size W wr)(h:jc 2 jo W (.slice (some ⟨b,off,none⟩) n cap) fs)(hi:i<fs.length):wr.cell? ⟨b,off+i*2+1,none⟩=some (.string (vw fs i)):=by
 have h1:fs[i]? =some (fs.getD i (0,⟨#[]⟩)):=by simp[List.getD,hi]
 exact aJ hb (h.at h1 1 _ rfl)
theorem mD{fs:List (Int×ByteArray)}{m:Nat}(h:∀f∈fs,f.2.size<=m)(i:Nat):(vw fs i).size<=m:=by
 unfold vw List.getD
 rcases Nat.lt_or_ge i fs.length with hi|hi
 ·rw[List.getElem?_eq_getElem hi];exact h _ (List.getElem_mem hi)
 ·rw[List.getElem?_eq_none hi];exact Nat.zero_le _
structure YN(w:World)(b off hb:Nat)(t2 t3 t4 t5:ByteArray)(cs:Array Value)(W:World):Prop where
 res:aW W w.heap.size #[.int .u64 0,.int .i64 0,.int .i64 0,.bool false,.int .i64 0,.slice none 0 0,.slice none 0 0,.slice none 0 0,.slice none 0 0,.slice none 0 0] 34
 hbx:aW W hb cs 34
 f2:W.cell? ⟨b,off+2*2+1,none⟩=some (.string t2)
 f3:W.cell? ⟨b,off+3*2+1,none⟩=some (.string t3)
 f4:W.cell? ⟨b,off+4*2+1,none⟩=some (.string t4)
 f5:W.cell? ⟨b,off+5*2+1,none⟩=some (.string t5)
 low:Below w.heap.size w W
 ne:w.heap.size<hb/\b<hb
theorem YN.tr{w W W':World}{b off hb:Nat}{t2 t3 t4 t5:ByteArray}{cs:Array Value}(h:YN w b off hb t2 t3 t4 t5 cs W)(k:Below W.heap.size W W'):YN w b off hb t2 t3 t4 t5 cs W':=
 ⟨h.res.tr k,h.hbx.tr k,aJ k h.f2,aJ k h.f3,aJ k h.f4,aJ k h.f5,h.low.trans (k.mono h.low.size),h.ne⟩
theorem YN.alloc{w W:World}{b off hb:Nat}{t2 t3 t4 t5:ByteArray}{cs:Array Value}(h:YN w b off hb t2 t3 t4 t5 cs W)(o:Obj):YN w b off hb t2 t3 t4 t5 cs (W.alloc o):=h.tr ((Below.refl _ _).alloc (Nat.le_refl _) o)
theorem YN.set{w W:World}{b off hb:Nat}{t2 t3 t4 t5:ByteArray}{cs:Array Value}(h:YN w b off hb t2 t3 t4 t5 cs W)(i:Nat)(v:Value):YN w b off hb t2 t3 t4 t5 (cs.setIfInBounds i v) (W.setCell ⟨hb,i,none⟩ v):=by
 have hn:=h.ne
 have ho:∀j u,W.cell? ⟨b,j,none⟩=some u->(W.setCell ⟨hb,i,none⟩ v).cell? ⟨b,j,none⟩=some u:=λj u hu=>(World.cell?_setCell_other _ _ _ _ (λe=>by have:=congrArg Addr.block e;dsimp only at this;omega)).trans hu
 exact⟨h.res.other (by show w.heap.size≠hb;omega) v,h.hbx.set i v,ho _ _ h.f2,ho _ _ h.f3,ho _ _ h.f4,ho _ _ h.f5,h.low.setCell (by show w.heap.size<=hb;omega) v,hn⟩
theorem yR{W W':World}{p q:Addr}{u v:Value}(k:Below W.heap.size W W')(h:W.cell? p=some u/\W.cell? q=some v):W'.cell? p=some u/\W'.cell? q=some v:=⟨aJ k h.1,aJ k h.2⟩
theorem QC{W:World}{p q a:Addr}{u v x:Value}(h:W.cell? p=some u/\W.cell? q=some v)(h1:p≠a)(h2:q≠a):(W.setCell a x).cell? p=some u/\(W.setCell a x).cell? q=some v:=
 ⟨(World.cell?_setCell_other _ _ _ _ h1.symm).trans h.1,(World.cell?_setCell_other _ _ _ _ h2.symm).trans h.2⟩
theorem KX(s:ByteArray)(most:Int)(W:World)(hs:s.size<10000000000)(hm0: -9223372036854775808<=most)(hm:most<10000000000)(h0:0<W.heap.size):
  Calls (par.ah par.Hm) 57 #[.string s,.int .i64 most,.agg #[.int .u64 0,.int .i64 0,.int .i64 0,.int .i64 0,.int .i64 0,.int .i64 0,.int .i64 0],.slice none 0 0] W λe w'=>ku (nD L0 [] (au s) most) W e w':=
 xH s most W L0 [] none 0 0 0 hs hm0 hm ⟨⟨by decide,by decide⟩,⟨by decide,by decide⟩,⟨by decide,by decide⟩,⟨by decide,by decide⟩,⟨by decide,by decide⟩,⟨by decide,by decide⟩,by decide,by decide⟩ (λh=>absurd h (Nat.lt_irrefl _)) (Nat.le_refl _) (by decide) h0 (fZ.none _ _ _ _)
theorem FD{bg:Nat->Nat->Int->Option (Ob×Nat)}{zs:List Int}{len:Nat}:∀(f k pos:Nat)(acc:List Ob){e:Int}{k':Nat},iL bg zs len f k pos acc=.err e k'->e=9\/e=3\/e=2
 |0,k,pos,acc,e,k',h=>by cases h;exact .inl rfl
 |f+1,k,pos,acc,e,k',h=>by
  unfold iL at h
  split at h
  ·split at h
   ·cases h;exact .inr (.inl rfl)
   ·split at h
    ·cases h;exact .inr (.inr rfl)
    ·split at h
     ·exact FD f _ _ _ h
     ·cases h;exact .inr (.inl rfl)
  ·cases h
theorem FH{bg:Nat->Nat->Int->Option (Ob×Nat)}{zs:List Int}{len:Nat}:∀(f k pos:Nat)(acc:List Ob){l:List Ob}{k':Nat},iL bg zs len f k pos acc=.ok l k'->l.length<=acc.length+f
 |0,k,pos,acc,l,k',h=>by cases h
 |f+1,k,pos,acc,l,k',h=>by
  unfold iL at h
  split at h
  ·split at h
   ·cases h
   ·split at h
    ·cases h
    ·split at h
     ·have:=FH f _ _ _ h
      simp at this
      omega
     ·cases h
  ·cases h;omega
theorem yS{W W':World}{p q:Addr}{u v:Value}{lb:Nat}{cs:Array Value}{T:TypeId}(k:Below W.heap.size W W')(h:W.cell? p=some u/\W.cell? q=some v)(K:aW W lb cs T):W'.cell? p=some u/\W'.cell? q=some v/\∀i,W'.cell? ⟨lb,i,none⟩=cs[i]? :=by
 obtain⟨l,c,f⟩:=(K.tr k).get
 exact⟨aJ k h.1,aJ k h.2,c⟩
theorem QD{W:World}{p q a:Addr}{u v x:Value}{lb:Nat}{cs:Array Value}(h:W.cell? p=some u/\W.cell? q=some v/\∀i,W.cell? ⟨lb,i,none⟩=cs[i]?)(h1:p≠a)(h2:q≠a)(h3:lb≠a.block):(W.setCell a x).cell? p=some u/\(W.setCell a x).cell? q=some v/\∀i,(W.setCell a x).cell? ⟨lb,i,none⟩=cs[i]? :=
 ⟨(World.cell?_setCell_other _ _ _ _ h1.symm).trans h.1,(World.cell?_setCell_other _ _ _ _ h2.symm).trans h.2.1,λi=>(World.cell?_setCell_other _ _ _ _ (λe=>h3 (congrArg Addr.block e).symm)).trans (h.2.2 i)⟩
theorem xK{α:Type}{k:Nat}{en:α->List Value}{T:TypeId}{W:World}{N B:Nat}{v:Value}{zs:List α}(h:aX T k en W N v zs)(hB:B<N)(i:Nat)(u:Value):aX T k en (W.setCell ⟨B,i,none⟩ u) N v zs:=bQ h (eH _ _ _ _) hB
theorem aev{w W:World}(h:Below w.heap.size w W)(i:Nat)(u:Value):Below w.heap.size w (W.setCell ⟨w.heap.size,i,none⟩ u):=h.setCell (Nat.le_refl _) u
theorem Uf(s:ByteArray)(w:World)(hs:s.size<10000000000):
  Calls (par.ah par.Hm) 43 #[.string s] w λe w'=>Ig (iR s) w e w':=by
 generalize hRR:iR s=RR
 unfold iR at hRR
 have her:=abb s
 have hsm:=Lib.hid (OH s)
 have HA:=Lib.hid λW=>fr.aa4 (HC:=par.Hm) rfl s W hs
 generalize gQ s=A at*
 obtain⟨FS,ER⟩:=A
 dsimp only at*
 have Yc:Hid (aW (w.alloc (.cells #[.int .u64 0,.int .i64 0,.int .i64 0,.bool false,.int .i64 0,.slice none 0 0,.slice none 0 0,.slice none 0 0,.slice none 0 0,.slice none 0 0] 34)) w.heap.size #[.int .u64 0,.int .i64 0,.int .i64 0,.bool false,.int .i64 0,.slice none 0 0,.slice none 0 0,.slice none 0 0,.slice none 0 0,.slice none 0 0] 34):=Lib.hid (by exact bk)
 have hb0:Hid (Below w.heap.size w (w.alloc (.cells #[.int .u64 0,.int .i64 0,.int .i64 0,.bool false,.int .i64 0,.slice none 0 0,.slice none 0 0,.slice none 0 0,.slice none 0 0,.slice none 0 0] 34))):=Lib.hid (by exact bm)
 go_enter (par.adi (H:=par.Hm)),Tryz.ntmps43
 go_wp2_with fail
 refine(HA.out _).mono ?_;rintro e w1 ⟨v,rfl,hv,b1⟩
 have KR1:=Lib.hid (Yc.out.tr b1)
 have hb1:=Lib.hid (hb0.out.trans (b1.mono hb0.out.size))
 clear Yc hb0 b1 HA
 obtain⟨ad,b,off,cap,rfl,i1,i2,i3,i4,i5,i6⟩:=hv.form
 clear i2 hv
 have I6:=Lib.hid i6
 clear i6
 by_cases he:ER=0
 ·subst he
  rw[if_pos rfl]at hRR
  clear her
  go_wp2_with fail
  refine(iM _ _).mono ?_;rintro e ww ⟨⟨_,rfl⟩|⟨h,rfl⟩,rfl⟩;rotate_left;exact absurd rfl h
  by_cases hl:FS.length=6
  ·rw[if_pos hl]at hRR
   rw[hl]at i1 i3 i5
   obtain rfl:=i1 (by omega)
   rw[hl]
   go_wp2_with fail
   refine(aV _ _ _).mono ?_;rintro e ww ⟨⟨_,rfl⟩|⟨h,rfl⟩,rfl⟩;rotate_left;exact absurd h (by decide)
   go_wp2_with fail
   have HRR:=Lib.hid hRR
   have HL:=Lib.hid hl
   have HB:=Lib.hid (i5 (by omega))
   clear hRR hl i1 i5
   go_loopw [23] (λi wr=>∃k:Nat,k<=6/\i=.int .i64 k/\Hid (∀j:Nat,j<k->(FS.getD j (0,⟨#[]⟩)).1=(j:Int)+1)/\Hid (Below w1.heap.size w1 wr)) (λi _=>6-(intOf i).toNat)
   case atStart=>exact⟨0,by omega,rfl,Lib.hid (λj h=>absurd h (Nat.not_lt_zero _)),Lib.hid (Below.refl _ _)⟩
   obtain⟨k,hk,rfl,hid,hbr⟩:=hrel
   have hbw:Hid (Below w.heap.size w wr):=Lib.hid (hb1.out.trans (hbr.out.mono hb1.out.size))
   by_cases hlt:k<6
   ·have hkx:FS[k]? =some (FS.getD k (0,⟨#[]⟩)):=by simp[List.getD,HL.out,hlt]
    have d0:=aJ hbr.out (I6.out.at hkx 0 _ rfl)
    have d1:=aJ hbr.out (I6.out.at hkx 1 _ rfl)
    rw[Nat.add_zero]at d0
    have HF:Hid (∀j:Nat,j<k+1->((FS.getD k (0,⟨#[]⟩)).1=(k:Int)+1)->(FS.getD j (0,⟨#[]⟩)).1=(j:Int)+1):=Lib.hid λj hj h=>by
     by_cases e:j<k
     ·exact hid.out j e
     ·obtain rfl:j=k:=by omega
      exact h
    have HNO:Hid ((FS.getD k (0,⟨#[]⟩)).1≠(k:Int)+1->¬∀i:Nat,i<6->(FS.getD i (0,⟨#[]⟩)).1=(i:Int)+1):=Lib.hid λh q=>h (q k hlt)
    clear hkx
    generalize FS.getD k (0,⟨#[]⟩)=F at*
    obtain⟨fid,body⟩:=F
    dsimp only at*
    have Kv:6-(intOf (.int .i64 ((k:Int)+1))).toNat<6-(intOf (.int .i64 (k:Int))).toNat:=by simp[intOf];omega
    have ajz:Hid (Below w1.heap.size w1 (wr.alloc (.cells #[.int .i64 fid,.string body] 85))):=Lib.hid (by have:=hbr.out;exact bm)
    by_cases hf:fid=(k:Int)+1
    ·subst hf
     go_wp2_with fail
     refine(aV _ _ _).mono ?_;rintro e ww ⟨⟨_,rfl⟩|⟨h,rfl⟩,rfl⟩;rotate_left;exact absurd h (by simp)
     go_wp2_with fail
     exact⟨⟨k+1,by omega,by go_num,Lib.hid (λj hj=>HF.out j hj trivial),ajz⟩,Kv⟩
    ·have hfb:(fid==(k:Int)+1)=false:=by simp[hf]
     have hRR:=HRR.out
     rw[if_neg (HNO.out hf)]at hRR
     go_wp2_with fail
     refine(aV _ _ _).mono ?_;rintro e ww ⟨⟨h,rfl⟩|⟨_,rfl⟩,rfl⟩
     ·exact absurd h (by first|(simp;done)|(simp;omega))
     ·unfold thrown
      go_wp2_with fail
      refine⟨rfl,(by have:=hbw.out;exact bm),?_⟩
      rw[<-hRR]
      rfl
   ·obtain rfl:k=6:=by omega
    have hRR:=HRR.out
    rw[if_pos hid.out]at hRR
    have e0:=oW hbr.out I6.out (i:=0) (by rw[HL.out];omega)
    have e1:=oW hbr.out I6.out (i:=1) (by rw[HL.out];omega)
    have e2:=oW hbr.out I6.out (i:=2) (by rw[HL.out];omega)
    have e3:=oW hbr.out I6.out (i:=3) (by rw[HL.out];omega)
    have e4:=oW hbr.out I6.out (i:=4) (by rw[HL.out];omega)
    have e5:=oW hbr.out I6.out (i:=5) (by rw[HL.out];omega)
    have z0:=Lib.hid (mD hsm.out 0)
    have z1:=Lib.hid (mD hsm.out 1)
    have z2:=Lib.hid (mD hsm.out 2)
    have z3:=Lib.hid (mD hsm.out 3)
    have z4:=Lib.hid (mD hsm.out 4)
    have z5:=Lib.hid (mD hsm.out 5)
    have KR:=Lib.hid (KR1.out.tr hbr.out)
    have hbB:Hid (b<wr.heap.size):=Lib.hid (Nat.lt_of_lt_of_le HB.out hbr.out.size)
    unfold Ie at hRR
    generalize vw FS 0=t0 at*
    generalize vw FS 1=t1 at*
    generalize vw FS 2=t2 at*
    generalize vw FS 3=t3 at*
    generalize vw FS 4=t4 at*
    generalize vw FS 5=t5 at*
    clear I6 HL HB hid hbr HRR hb1 KR1 hsm
    rcases hh:Dw (au t0)with⟨a,p,c,d,g⟩|er
    ·rw[hh]at hRR
     dsimp only at hRR
     obtain⟨ha,hp,hc,hd,hg⟩:=Yb (bP _) hh
     have HRR:=Lib.hid hRR
     clear hRR
     go_wp2_with fail
     refine(KI t0 _ (by have:=z0.out;omega)).mono ?_;rintro e w2 ⟨b2,h2⟩
     rw[hh]at h2
     dsimp only at h2
     subst h2
     unfold Qx
     clear hh
     have IS3:=Lib.hid (show YN w b off w2.heap.size t2 t3 t4 t5 #[.int .u64 a,.int .i64 p,.int .i64 c,.bool (d==1),.int .i64 g,.slice none 0 0,.slice none 0 0,.slice none 0 0,.slice none 0 0,.slice none 0 0] (w2.alloc (.cells #[.int .u64 a,.int .i64 p,.int .i64 c,.bool (d==1),.int .i64 g,.slice none 0 0,.slice none 0 0,.slice none 0 0,.slice none 0 0,.slice none 0 0] 34))from
      ⟨(KR.out.tr b2).alloc _,aW.new _ _ _,aJ ((Below.refl _ _).alloc (Nat.le_refl _) _) (aJ b2 e2),aJ ((Below.refl _ _).alloc (Nat.le_refl _) _) (aJ b2 e3),aJ ((Below.refl _ _).alloc (Nat.le_refl _) _) (aJ b2 e4),aJ ((Below.refl _ _).alloc (Nat.le_refl _) _) (aJ b2 e5),
       eG (hbw.out.trans (b2.mono hbw.out.size)) (Nat.le_refl _) _,by have:=KR.out.lt;have:=b2.size;omega,by have:=hbB.out;have:=b2.size;omega⟩)
     have e1b:(w2.alloc (.cells #[.int .u64 a,.int .i64 p,.int .i64 c,.bool (d==1),.int .i64 g,.slice none 0 0,.slice none 0 0,.slice none 0 0,.slice none 0 0,.slice none 0 0] 34)).cell? ⟨b,off+2+1,none⟩=some (.string t1):=aJ ((Below.refl _ _).alloc (Nat.le_refl _) _) (aJ b2 e1)
     have hbn:¬w2.heap.size=b:=by have:=hbB.out;have:=b2.size;omega
     have abd:¬b=w2.heap.size:=λe=>hbn e.symm
     replace e1:w2.cell? ⟨b,off+2+1,none⟩=some (.string t1):=aJ b2 e1
     have hbw2:=Lib.hid (hbw.out.trans (b2.mono hbw.out.size))
     clear e0 e2 e3 e4 e5 KR hbB b2 hbw
     rcases hr:OG (au t1)with⟨rs,rq⟩|er
     ·rw[hr]at HRR
      dsimp only at HRR
      go_wp2_with fail
      refine(DF t1 _ (by have:=z1.out;omega)).mono ?_;rintro e w4 ⟨b4,h4⟩
      rw[hr]at h4
      obtain⟨rv,rfl,ro⟩:=h4
      have IS4:=Lib.hid (IS3.out.tr b4)
      have RO4:=Lib.hid ro
      clear ro b4 IS3 e1 hr
      obtain⟨ra,rl,rc,rfl⟩:=aZ (RO4.out.sees aN)
      have K4:=IS4.out.hbx
      obtain⟨l4,c4,f4⟩:=K4.get
      have RO5:=Lib.hid (bQ RO4.out (eH w4 w2.heap.size 9 (.slice ra rl rc)) (by simp))
      have IS5:=Lib.hid (IS4.out.set 9 (.slice ra rl rc))
      go_wp2_with fail
      generalize w4.setCell ⟨w2.heap.size,9,none⟩ (.slice ra rl rc)=W5 at*
      clear K4 l4 c4 f4 IS4 RO4
      have hS:W5.cell? ⟨b,off+4+1,none⟩=some (.string t2)/\W5.cell? ⟨w2.heap.size,1,none⟩=some (.int .i64 p):=by
       obtain⟨l,cc,f⟩:=IS5.out.hbx.get
       exact⟨IS5.out.f2,cc 1⟩
      have KH:=IS5.out.hbx
      obtain⟨lH,cH,fH⟩:=KH.get
      have fzH:=fH 5
      clear cH fH
      have HA2:Hid (∀W,Below W5.heap.size W5 W->Calls (par.ah par.Hm) 57 #[.string t2,.int .i64 p,.agg #[.int .u64 0,.int .i64 0,.int .i64 0,.int .i64 0,.int .i64 0,.int .i64 0,.int .i64 0],.slice none 0 0] W λe w'=>ku (nD L0 [] (au t2) p) W e w'):=Lib.hid λW hW=>KX t2 p W (by have:=z2.out;omega) (by omega) (by omega) (by have:=hW.size;omega)
      rcases hlo:nD L0 [] (au t2) p with⟨low,lq⟩|er
      ·rw[hlo]at HRR HA2
       dsimp only at HRR
       obtain⟨hlow,aex⟩:=QB (bP _) hlo
       clear hlo
       go_region_held3 (λw'=>w'.cell? ⟨b,off+4+1,none⟩=some (.string t2)/\w'.cell? ⟨w2.heap.size,1,none⟩=some (.int .i64 p))
        (first|(refine QC (yR (W:=W5) (by exact bm) hS) (λe=>abd (congrArg Addr.block e)) (λe=>by have:=congrArg Addr.off e;dsimp only at this;omega))|(refine yR (W:=W5) ?_ hS;exact bm)|go_keep)
        (first|(go_at_call 57;refine(HA2.out _ (by exact bm)).mono ?_;rintro e w6 ⟨b6,lv,rfl,lo⟩;obtain⟨Yd,Ye,hfv,_⟩:=lo.form aN;subst hfv;have xM:Below W5.heap.size W5 w6:=(by exact bm);obtain⟨l6,c6,f6⟩:=(KH.tr xM).get;have f65:=f6 5;have c65:=c6 5))
       have IS7:=Lib.hid ((IS5.out.tr xM).set 5 (.slice Yd low.length Ye))
       have LO7:=Lib.hid ((bQ lo (eH w6 w2.heap.size 5 (.slice Yd low.length Ye)) (by first|(simp;omega)|omega)).lift (show w2.heap.size+1<=_ by first|(simp;omega)|omega))
       have RO7:=Lib.hid (bQ (RO5.out.tr xM) (eH w6 w2.heap.size 5 (.slice Yd low.length Ye)) (by simp))
       clear lo b6 xM l6 c6 f6 f65 c65 hS KH lH fzH HA2 IS5 RO5
       go_wp2_with fail
       generalize w6.setCell ⟨w2.heap.size,5,none⟩ (.slice Yd low.length Ye)=W7 at*
       have hS:W7.cell? ⟨b,off+6+1,none⟩=some (.string t3)/\W7.cell? ⟨w2.heap.size,1,none⟩=some (.int .i64 p):=by
        obtain⟨l,cc,f⟩:=IS7.out.hbx.get
        exact⟨IS7.out.f3,cc 1⟩
       have KH:=IS7.out.hbx
       obtain⟨lH,cH,fH⟩:=KH.get
       have fzH:=fH 6
       clear cH fH
       have HA2:Hid (∀W,Below W7.heap.size W7 W->Calls (par.ah par.Hm) 57 #[.string t3,.int .i64 p,.agg #[.int .u64 0,.int .i64 0,.int .i64 0,.int .i64 0,.int .i64 0,.int .i64 0,.int .i64 0],.slice none 0 0] W λe w'=>ku (nD L0 [] (au t3) p) W e w'):=Lib.hid λW hW=>KX t3 p W (by have:=z3.out;omega) (by omega) (by omega) (by have:=hW.size;omega)
       rcases hlo:nD L0 [] (au t3) p with⟨high,lq⟩|er
       ·rw[hlo]at HRR HA2
        dsimp only at HRR
        obtain⟨hhigh,aiF⟩:=QB (bP _) hlo
        clear hlo
        go_region_held3 (λw'=>w'.cell? ⟨b,off+6+1,none⟩=some (.string t3)/\w'.cell? ⟨w2.heap.size,1,none⟩=some (.int .i64 p))
         (first|(refine QC (yR (W:=W7) (by exact bm) hS) (λe=>abd (congrArg Addr.block e)) (λe=>by have:=congrArg Addr.off e;dsimp only at this;omega))|(refine yR (W:=W7) ?_ hS;exact bm)|go_keep)
         (first|(go_at_call 57;refine(HA2.out _ (by exact bm)).mono ?_;rintro e w8 ⟨b6,hv,rfl,lo⟩;obtain⟨Ug,Uh,Ui,rfl⟩:=aZ (lo.sees aN);have xM:Below W7.heap.size W7 w8:=(by exact bm);obtain⟨l6,c6,f6⟩:=(KH.tr xM).get;have f65:=f6 6;have c65:=c6 6))
        have IS9:=Lib.hid ((IS7.out.tr xM).set 6 (.slice Ug Uh Ui))
        have HI9:=Lib.hid ((bQ lo (eH w8 w2.heap.size 6 (.slice Ug Uh Ui)) (by first|(simp;omega)|omega)).lift (show w2.heap.size+1<=_ by first|(simp;omega)|omega))
        have LO9:=Lib.hid (bQ (LO7.out.tr xM) (eH w8 w2.heap.size 6 (.slice Ug Uh Ui)) (by simp))
        have RO9:=Lib.hid (bQ (RO7.out.tr xM) (eH w8 w2.heap.size 6 (.slice Ug Uh Ui)) (by first|(simp;done)|omega))
        clear lo b6 xM l6 c6 f6 f65 c65 hS KH lH fzH HA2 IS7 LO7 RO7
        obtain⟨lN,cN,fN⟩:=IS9.out.hbx.get
        have cN5:=cN 5
        clear cN fN
        go_wp2_with fail
        generalize w8.setCell ⟨w2.heap.size,6,none⟩ (.slice Ug Uh Ui)=W9 at*
        have hl4:low.length<=4096:=by
         rcases aex with h|h
         ·rw[h];decide
         ·omega
        have hll:low.length<1000000000000:=by omega
        refine(walk_in _ low _ (Qs (LO9.out.sees aN) (by have:=IS9.out.hbx.lt;omega) hll) (λi=> ?_)).mono ?_
        ·by_cases hi:i<low.length
         ·have:=hlow low[i] (List.getElem_mem hi)
          simpa [List.getD,hi]using this
         ·simp[List.getD,hi]
        rintro e w10 ⟨h10,b10⟩
        have OI:=Lib.hid (IS9.out.tr b10)
        rcases hnf:newF low with⟨os,k10⟩|⟨c10,k10⟩
        ·rw[show iL TB low low.length (low.length+1) 0 0 []=.ok os k10 from hnf]at h10
         rw[hnf]at HRR
         dsimp only at HRR
         obtain⟨sv,rfl,so⟩:=h10
         have SO:=Lib.hid (Ue (q:=w2.heap.size) so (by have:=OI.out.hbx.lt;omega) (by have:=FH _ _ _ _ (show iL TB low low.length (low.length+1) 0 0 []=.ok os k10 from hnf);simp at this;omega) ⟨by have:=OI.out.ne;omega,by have:=IS9.out.hbx.lt;omega⟩)
         have agV:=Lib.hid (LO9.out.tr b10)
         have agW:=Lib.hid (HI9.out.tr b10)
         have agX:=Lib.hid (RO9.out.tr b10)
         clear so b10 IS9 LO9 HI9 RO9 hnf
         obtain⟨sad,sb,agY,scap,rfl,s1,s3,s4,s5,s6,s7⟩:=SO.out
         have SS:=Lib.hid (And.intro s1 (And.intro s3 (And.intro s4 (And.intro s5 s6))))
         have hsb:Hid (sb≠w2.heap.size):=Lib.hid s7
         clear s1 s3 s4 s5 s6 s7 SO
         obtain⟨lN,cN,fN⟩:=OI.out.hbx.get
         have cN0:=cN 0
         have cN1:=cN 1
         have cN2:=cN 2
         have cN5:=cN 5
         clear cN fN
         go_wp2_with fail
         refine(aV _ _ _).mono ?_;rintro e ww ⟨⟨_,rfl⟩|⟨h,rfl⟩,rfl⟩;rotate_left;exact absurd h (by decide)
         go_wp2_with fail
         have Uj:=Lib.hid (OI.out.alloc (.cells #[.int .u64 a,.int .i64 p,.int .i64 c,.int .i64 (low.length:Int),.int .i64 0,.int .i64 0,.int .i64 0] 30))
         have agZ:Hid (aW (w10.alloc (.cells #[.int .u64 a,.int .i64 p,.int .i64 c,.int .i64 (low.length:Int),.int .i64 0,.int .i64 0,.int .i64 0] 30)) w10.heap.size #[.int .u64 a,.int .i64 p,.int .i64 c,.int .i64 (low.length:Int),.int .i64 0,.int .i64 0,.int .i64 0] 30):=Lib.hid (aW.new _ _ _)
         have ba:Below w10.heap.size w10 (w10.alloc (.cells #[.int .u64 a,.int .i64 p,.int .i64 c,.int .i64 (low.length:Int),.int .i64 0,.int .i64 0,.int .i64 0] 30)):=(Below.refl _ _).alloc (Nat.le_refl _) _
         have ag0:=Lib.hid (agV.out.tr ba)
         have ag1:=Lib.hid (agW.out.tr ba)
         have ag2:=Lib.hid (agX.out.tr ba)
         have oZ:=Lib.hid (And.intro SS.out.1 (And.intro SS.out.2.1 (And.intro SS.out.2.2.1 (And.intro (Nat.lt_of_lt_of_le SS.out.2.2.2.1 ba.size) (SS.out.2.2.2.2.block (ba.block sb SS.out.2.2.2.1))))))
         have ams:w2.heap.size<w10.heap.size:=OI.out.hbx.lt
         have ag3:Hid (Lay.ok ⟨a,p,c,low.length,0,0,0⟩):=Lib.hid (by refine⟨⟨?_,?_⟩,⟨?_,?_⟩,⟨?_,?_⟩,⟨?_,?_⟩,⟨?_,?_⟩,⟨?_,?_⟩,?_,?_⟩<;>dsimp only<;>omega)
         clear ba OI agV agW agX SS cN0 cN1 cN2 cN5 lN
         generalize w10.alloc (.cells #[.int .u64 a,.int .i64 p,.int .i64 c,.int .i64 (low.length:Int),.int .i64 0,.int .i64 0,.int .i64 0] 30)=W11 at*
         generalize w10.heap.size=lb at*
         have hS:W11.cell? ⟨b,off+8+1,none⟩=some (.string t4)/\W11.cell? ⟨w2.heap.size,1,none⟩=some (.int .i64 p):=by
          obtain⟨l,cc,f⟩:=Uj.out.hbx.get
          exact⟨Uj.out.f4,cc 1⟩
         have KH:=Uj.out.hbx
         obtain⟨lH,cH,fH⟩:=KH.get
         have fzH:=fH 7
         clear cH fH
         have KL:=agZ.out
         have Yf:Hid (∀W,Below W11.heap.size W11 W->Calls (par.ah par.Hm) 57 #[.string t4,.int .i64 p,.agg #[.int .u64 a,.int .i64 p,.int .i64 c,.int .i64 (low.length:Int),.int .i64 0,.int .i64 0,.int .i64 0],.slice sad os.length scap] W λe w'=>ku (nD ⟨a,p,c,low.length,0,0,0⟩ os (au t4) p) W e w'):=Lib.hid λW hW=>xH t4 p W ⟨a,p,c,low.length,0,0,0⟩ os sad sb agY scap (by have:=z4.out;omega) (by omega) (by omega) ag3.out oZ.out.1 oZ.out.2.1 oZ.out.2.2.1 (Nat.lt_of_lt_of_le oZ.out.2.2.2.1 hW.size) (oZ.out.2.2.2.2.block (hW.block sb oZ.out.2.2.2.1))
         rcases hlo:nD ⟨a,p,c,low.length,0,0,0⟩ os (au t4) p with⟨old,lq⟩|er
         ·rw[hlo]at HRR Yf
          dsimp only at HRR
          clear hlo
          go_region_held3 (λw'=>w'.cell? ⟨b,off+8+1,none⟩=some (.string t4)/\w'.cell? ⟨w2.heap.size,1,none⟩=some (.int .i64 p)/\∀i,w'.cell? ⟨lb,i,none⟩=(#[.int .u64 a,.int .i64 p,.int .i64 c,.int .i64 (low.length:Int),.int .i64 0,.int .i64 0,.int .i64 0]:Array Value)[i]?)
           (first|(refine QD (yS (W:=W11) (by exact bm) hS KL) (λe=>abd (congrArg Addr.block e)) (λe=>by have:=congrArg Addr.off e;dsimp only at this;omega) (by show lb≠w2.heap.size;omega))|(refine yS (W:=W11) ?_ hS KL;exact bm)|go_keep)
           (first|(go_at_call 57;refine(Yf.out _ (by exact bm)).mono ?_;rintro e w12 ⟨b6,xv,rfl,lo⟩;obtain⟨Ee,Ef,Eh,rfl⟩:=aZ (lo.sees aN);have xM:Below W11.heap.size W11 w12:=(by exact bm);obtain⟨l6,c6,f6⟩:=(KH.tr xM).get;have f65:=f6 7;have c65:=c6 7))
          have Uk:=Lib.hid ((Uj.out.tr xM).set 7 (.slice Ee Ef Eh))
          have ag4:=Lib.hid ((bQ lo (eH w12 w2.heap.size 7 (.slice Ee Ef Eh)) (by first|(simp;omega)|omega)).lift (show w2.heap.size+1<=_ by first|(simp;omega)|omega))
          have ag5:=Lib.hid ((KL.tr xM).other (p:=⟨w2.heap.size,7,none⟩) (by show lb≠w2.heap.size;omega) (.slice Ee Ef Eh))
          have DI:=Lib.hid (And.intro oZ.out.1 (And.intro oZ.out.2.1 (And.intro oZ.out.2.2.1 (And.intro (show sb<(w12.setCell ⟨w2.heap.size,7,none⟩ (.slice Ee Ef Eh)).heap.size by have:=xM.size;have:=oZ.out.2.2.2.1;simp;omega) ((oZ.out.2.2.2.2.block (xM.block sb oZ.out.2.2.2.1)).block (Below.heap_setCell w12 ⟨w2.heap.size,7,none⟩ (.slice Ee Ef Eh) _ hsb.out))))))
          have ag6:=Lib.hid (bQ (ag0.out.tr xM) (eH w12 w2.heap.size 7 (.slice Ee Ef Eh)) (by first|(simp;done)|omega))
          have ag7:=Lib.hid (bQ (ag1.out.tr xM) (eH w12 w2.heap.size 7 (.slice Ee Ef Eh)) (by first|(simp;done)|omega))
          have ag8:=Lib.hid (bQ (ag2.out.tr xM) (eH w12 w2.heap.size 7 (.slice Ee Ef Eh)) (by first|(simp;done)|omega))
          clear lo b6 xM l6 c6 f6 f65 c65 hS KH lH fzH Yf KL Uj ag0 ag1 ag2 agZ oZ
          go_wp2_with fail
          generalize w12.setCell ⟨w2.heap.size,7,none⟩ (.slice Ee Ef Eh)=W13 at*
          have hS:W13.cell? ⟨b,off+10+1,none⟩=some (.string t5)/\W13.cell? ⟨w2.heap.size,1,none⟩=some (.int .i64 p):=by
           obtain⟨l,cc,f⟩:=Uk.out.hbx.get
           exact⟨Uk.out.f5,cc 1⟩
          have KH:=Uk.out.hbx
          obtain⟨lH,cH,fH⟩:=KH.get
          have fzH:=fH 8
          clear cH fH
          have KL:=ag5.out
          have Yf:Hid (∀W,Below W13.heap.size W13 W->Calls (par.ah par.Hm) 57 #[.string t5,.int .i64 p,.agg #[.int .u64 a,.int .i64 p,.int .i64 c,.int .i64 (low.length:Int),.int .i64 0,.int .i64 0,.int .i64 0],.slice sad os.length scap] W λe w'=>ku (nD ⟨a,p,c,low.length,0,0,0⟩ os (au t5) p) W e w'):=Lib.hid λW hW=>xH t5 p W ⟨a,p,c,low.length,0,0,0⟩ os sad sb agY scap (by have:=z5.out;omega) (by omega) (by omega) ag3.out DI.out.1 DI.out.2.1 DI.out.2.2.1 (Nat.lt_of_lt_of_le DI.out.2.2.2.1 hW.size) (DI.out.2.2.2.2.block (hW.block sb DI.out.2.2.2.1))
          rcases hlo:nD ⟨a,p,c,low.length,0,0,0⟩ os (au t5) p with⟨far,lq⟩|er
          ·rw[hlo]at HRR Yf
           dsimp only at HRR
           clear hlo
           go_region_held3 (λw'=>w'.cell? ⟨b,off+10+1,none⟩=some (.string t5)/\w'.cell? ⟨w2.heap.size,1,none⟩=some (.int .i64 p)/\∀i,w'.cell? ⟨lb,i,none⟩=(#[.int .u64 a,.int .i64 p,.int .i64 c,.int .i64 (low.length:Int),.int .i64 0,.int .i64 0,.int .i64 0]:Array Value)[i]?)
            (first|(refine QD (yS (W:=W13) (by exact bm) hS KL) (λe=>abd (congrArg Addr.block e)) (λe=>by have:=congrArg Addr.off e;dsimp only at this;omega) (by show lb≠w2.heap.size;omega))|(refine yS (W:=W13) ?_ hS KL;exact bm)|go_keep)
            (first|(go_at_call 57;refine(Yf.out _ (by exact bm)).mono ?_;rintro e w14 ⟨b6,xv,rfl,lo⟩;obtain⟨KY,KZ,La,rfl⟩:=aZ (lo.sees aN);have xM:Below W13.heap.size W13 w14:=(by exact bm);obtain⟨l6,c6,f6⟩:=(KH.tr xM).get;have f65:=f6 8;have c65:=c6 8))
           have abg:=Lib.hid ((Uk.out.tr xM).set 8 (.slice KY KZ La))
           have ajF:=Lib.hid ((bQ lo (eH w14 w2.heap.size 8 (.slice KY KZ La)) (by first|(simp;omega)|omega)).lift (show w2.heap.size+1<=_ by first|(simp;omega)|omega))
           have amu:=Lib.hid ((KL.tr xM).other (p:=⟨w2.heap.size,8,none⟩) (by show lb≠w2.heap.size;omega) (.slice KY KZ La))
           have ajG:=Lib.hid (bQ (ag4.out.tr xM) (eH w14 w2.heap.size 8 (.slice KY KZ La)) (by first|(simp;done)|omega))
           have ajH:=Lib.hid (bQ (ag6.out.tr xM) (eH w14 w2.heap.size 8 (.slice KY KZ La)) (by first|(simp;done)|omega))
           have ajI:=Lib.hid (bQ (ag7.out.tr xM) (eH w14 w2.heap.size 8 (.slice KY KZ La)) (by first|(simp;done)|omega))
           have ajJ:=Lib.hid (bQ (ag8.out.tr xM) (eH w14 w2.heap.size 8 (.slice KY KZ La)) (by first|(simp;done)|omega))
           clear lo b6 xM l6 c6 f6 f65 c65 hS KH lH fzH Yf KL Uk ag4 ag6 ag7 ag8 ag5 DI
           obtain⟨lN,cN,fN⟩:=abg.out.hbx.get
           have cN0:=cN 0
           have cN1:=cN 1
           have cN2:=cN 2
           have cN3:=cN 3
           have cN4:=cN 4
           have cN5:=cN 5
           have cN6:=cN 6
           have cN7:=cN 7
           have cN8:=cN 8
           have cN9:=cN 9
           clear cN fN
           obtain⟨lQ,cQ,fQ⟩:=abg.out.res.get
           go_wp2_with fail
           have hnw:w.heap.size<w2.heap.size+1:=by have:=abg.out.ne;omega
           have ajK:=ajJ.out.lift (show w2.heap.size+1<=_ by first|(simp;done)|omega)
           refine bodyPost_ret (v:=.agg #[.int .u64 a,.int .i64 p,.int .i64 c,.bool (d==1),.int .i64 g,.slice Yd low.length Ye,.slice Ug Uh Ui,.slice Ee Ef Eh,.slice KY KZ La,.slice ra rl rc]) (by simp only[results,Tryz.results43];go_simp) rfl ⟨?_,?_⟩
           ·have:=abg.out.low
            repeat(first|with_reducible exact this|with_reducible refine aev ?_ _ _)
           ·rw[<-HRR.out]
            refine⟨_,rfl,_,_,_,_,_,rfl,?_,?_,?_,?_,?_⟩
            ·exact aX.lift (by repeat(first|with_reducible exact ajH.out|with_reducible refine xK ?_ hnw _ _)) (by omega)
            ·exact aX.lift (by repeat(first|with_reducible exact ajI.out|with_reducible refine xK ?_ hnw _ _)) (by omega)
            ·exact aX.lift (by repeat(first|with_reducible exact ajG.out|with_reducible refine xK ?_ hnw _ _)) (by omega)
            ·exact aX.lift (by repeat(first|with_reducible exact ajF.out|with_reducible refine xK ?_ hnw _ _)) (by omega)
            ·exact aX.lift (by repeat(first|with_reducible exact ajK|with_reducible refine xK ?_ hnw _ _)) (by omega)
          ·have hRR:=HRR.out
           rw[hlo]at hRR Yf
           dsimp only at hRR
           refine wp_region_held_drew (S:=λw'=>w'.cell? ⟨b,off+10+1,none⟩=some (.string t5)/\w'.cell? ⟨w2.heap.size,1,none⟩=some (.int .i64 p)/\∀i,w'.cell? ⟨lb,i,none⟩=(#[.int .u64 a,.int .i64 p,.int .i64 c,.int .i64 (low.length:Int),.int .i64 0,.int .i64 0,.int .i64 0]:Array Value)[i]?) (by kernel_rfl) ?_ (λhHeld=> ?_)
           ·(try dsimp only);(first|(refine yS (W:=W13) ?_ hS KL;exact bm)|go_keep)
           refine tk 0 ?_
           refine tk 1 ?_
           refine tk 2 ?_
           refine tk 3 ?_
           refine tk 4 ?_
           refine tk 5 ?_
           refine tk 6 ?_
           refine tk 7 ?_
           refine co 8 λK hK=> ?_
           go_simp
           refine(Yf.out _ (by exact bm)).mono ?_;rintro e w6 ⟨b6,h6⟩
           dsimp only at h6
           subst h6
           unfold thrown
           refine⟨rfl,?_,?_⟩
           ·exact(Uk.out.tr (by exact bm)).low
           ·rw[<-hRR]
            rfl
         ·have hRR:=HRR.out
          rw[hlo]at hRR Yf
          dsimp only at hRR
          refine wp_region_held_drew (S:=λw'=>w'.cell? ⟨b,off+8+1,none⟩=some (.string t4)/\w'.cell? ⟨w2.heap.size,1,none⟩=some (.int .i64 p)/\∀i,w'.cell? ⟨lb,i,none⟩=(#[.int .u64 a,.int .i64 p,.int .i64 c,.int .i64 (low.length:Int),.int .i64 0,.int .i64 0,.int .i64 0]:Array Value)[i]?) (by kernel_rfl) ?_ (λhHeld=> ?_)
          ·(try dsimp only);(first|(refine yS (W:=W11) ?_ hS KL;exact bm)|go_keep)
          refine tk 0 ?_
          refine tk 1 ?_
          refine tk 2 ?_
          refine tk 3 ?_
          refine tk 4 ?_
          refine tk 5 ?_
          refine tk 6 ?_
          refine tk 7 ?_
          refine co 8 λK hK=> ?_
          go_simp
          refine(Yf.out _ (by exact bm)).mono ?_;rintro e w6 ⟨b6,h6⟩
          dsimp only at h6
          subst h6
          unfold thrown
          refine⟨rfl,?_,?_⟩
          ·exact(Uj.out.tr (by exact bm)).low
          ·rw[<-hRR]
           rfl
        ·rw[show iL TB low low.length (low.length+1) 0 0 []=.err c10 k10 from hnf]at h10
         have hRR:=HRR.out
         rw[hnf]at hRR
         dsimp only at hRR
         have ag9:c10≠0:=by rcases FD _ _ _ _ (show iL TB low low.length (low.length+1) 0 0 []=.err c10 k10 from hnf)with h|h|h<;>omega
         have ak1:(c10==0)=false:=by simp[ag9]
         have ajL:e=.returned (.tuple #[.slice none 0 0,.int .i64 c10]):=h10
         subst ajL
         go_wp2_with fail
         refine(aV _ _ _).mono ?_;rintro e ww ⟨⟨h,rfl⟩|⟨_,rfl⟩,rfl⟩
         ·exact absurd h (by first|(simp;done)|(simp[ag9];done)|decide)
         ·unfold thrown
          go_wp2_with fail
          refine⟨rfl,OI.out.low,?_⟩
          rw[<-hRR]
          rfl
       ·have hRR:=HRR.out
        rw[hlo]at hRR HA2
        dsimp only at hRR
        refine wp_region_held_drew (S:=λw'=>w'.cell? ⟨b,off+6+1,none⟩=some (.string t3)/\w'.cell? ⟨w2.heap.size,1,none⟩=some (.int .i64 p)) (by kernel_rfl) ?_ (λhHeld=> ?_)
        ·(try dsimp only);(first|(refine yR (W:=W7) ?_ hS;exact bm)|go_keep)
        refine tk 0 ?_
        refine tk 1 ?_
        refine tk 2 ?_
        refine tk 3 ?_
        refine tk 4 ?_
        refine tk 5 ?_
        refine tk 6 ?_
        refine co 7 λK hK=> ?_
        go_simp
        refine(HA2.out _ (by exact bm)).mono ?_;rintro e w6 ⟨b6,h6⟩
        dsimp only at h6
        subst h6
        unfold thrown
        refine⟨rfl,?_,?_⟩
        ·exact(IS7.out.tr (by exact bm)).low
        ·rw[<-hRR]
         rfl
      ·have hRR:=HRR.out
       rw[hlo]at hRR HA2
       dsimp only at hRR
       refine wp_region_held_drew (S:=λw'=>w'.cell? ⟨b,off+4+1,none⟩=some (.string t2)/\w'.cell? ⟨w2.heap.size,1,none⟩=some (.int .i64 p)) (by kernel_rfl) ?_ (λhHeld=> ?_)
       ·(try dsimp only);(first|(refine yR (W:=W5) ?_ hS;exact bm)|go_keep)
       refine tk 0 ?_
       refine tk 1 ?_
       refine tk 2 ?_
       refine tk 3 ?_
       refine tk 4 ?_
       refine tk 5 ?_
       refine tk 6 ?_
       refine co 7 λK hK=> ?_
       go_simp
       refine(HA2.out _ (by exact bm)).mono ?_;rintro e w6 ⟨b6,h6⟩
       dsimp only at h6
       subst h6
       unfold thrown
       refine⟨rfl,?_,?_⟩
       ·exact(IS5.out.tr (by exact bm)).low
       ·rw[<-hRR]
        rfl
     ·have hRR:=HRR.out
      rw[hr]at hRR
      dsimp only at hRR
      go_wp2_with fail
      refine(DF t1 _ (by have:=z1.out;omega)).mono ?_;rintro e w4 ⟨b4,h4⟩
      rw[hr]at h4
      dsimp only at h4
      subst h4
      unfold thrown
      go_wp2_with fail
      refine⟨rfl,(IS3.out.tr b4).low,?_⟩
      rw[<-hRR]
      rfl
    ·rw[hh]at hRR
     dsimp only at hRR
     go_wp2_with fail
     refine(KI t0 _ (by have:=z0.out;omega)).mono ?_;rintro e w2 ⟨b2,h2⟩
     rw[hh]at h2
     dsimp only at h2
     subst h2
     unfold thrown
     go_wp2_with fail
     refine⟨rfl,(by have:=hbw.out;exact bm),?_⟩
     rw[<-hRR]
     rfl
  ·rw[if_neg hl]at hRR
   have hlb:((FS.length:Int)==6)=false:=by simp;omega
   go_wp2_with fail
   refine(aV _ _ _).mono ?_;rintro e ww ⟨⟨h,rfl⟩|⟨_,rfl⟩,rfl⟩
   ·exact absurd h (by first|(simp;done)|(simp;omega))
   ·unfold thrown
    go_wp2_with fail
    refine⟨rfl,hb1.out,?_⟩
    rw[<-hRR]
    rfl
 ·rw[if_neg he]at hRR
  go_wp2_with fail
  refine(iM _ _).mono ?_;rintro e ww ⟨⟨h,rfl⟩|⟨_,rfl⟩,rfl⟩
  ·exact absurd h he
  ·obtain⟨c,rfl⟩:=Int.eq_ofNat_of_zero_le (show 0<=ER by omega)
   rw[Int.toNat_natCast]at hRR
   unfold thrown
   go_wp2_with fail
   refine⟨rfl,hb1.out,?_⟩
   rw[<-hRR]
   rfl
end Go.Proofs.YtlncengggmgdgaaGreat.ps
namespace Go.Proofs.YtlncengggmgdgaaGreat.ps
open Go Go.RowKit cm cw gr hd lx ob hp
attribute [local irreducible] par.ah
set_option maxHeartbeats 4000000
attribute [local go_sem] Oper.semAt_some
theorem Yg(n:Nat)(q:Addr)(w:World):
  CallsDIn Fence.wide n (par.ah par.Hm) 86 #[.pointer (some q)] .returning w λe u' w'=>e=.returned (.tuple #[])/\u'=.returning/\w'=w:=by
 refine callsDIn_of_wpSIn par.Xl rfl trivial λc₀ cs hu=> ?_
 apply wpSIn_seq
 apply wpSIn_region
 simp[wpOpsSIn,go_sem,recoverD,hu,Tryz.ntmps86,Exit.thenS]
 have hnn:=eq_nil
 refine wpSIn_of_wpIn rfl ?_
 show Code.wpIn _ _ _ _ _ {tmps:= #[.pointer (some q),undef,undef,undef,.nilIface,undef,undef,undef,undef,undef,undef,undef],defers:=[]} w
 gi_wp2
 exact⟨rfl,.returning,by cases c₀;simp_all,_,results_none rfl _ _ _,rfl,rfl,rfl⟩
theorem OJ(n:Nat)(q:Nat)(y:Value)(k:Int)(w:World)(hq:aW w q #[y] 36):
  CallsDIn Fence.wide n (par.ah par.Hm) 86 #[.pointer (some ⟨q,0,none⟩)] (.panicking [{v:=uX k,recovered:=false}]) w λe u' w'=>e=.returned (.tuple #[])/\u'=.panicking [{v:=uX k,recovered:=true}]/\aW w' q #[.int .i64 k] 36/\w.grownBy w' (some q):=by
 refine callsDIn_of_wpSIn par.Xl rfl trivial λc₀ cs hu=> ?_
 unfold uX at*
 obtain⟨lq,cq,fq⟩:=hq.get
 have cq0:=cq 0
 apply wpSIn_seq
 apply wpSIn_region
 simp[wpOpsSIn,go_sem,recoverD,hu,Tryz.ntmps86,Exit.thenS]
 have hnn:=Qy k
 refine wpSIn_of_wpIn rfl ?_
 show Code.wpIn _ _ _ _ _ {tmps:= #[.pointer (some ⟨q,0,none⟩),undef,undef,undef,.iface 145 (.agg #[.int .i64 k]),undef,undef,undef,undef,undef,undef,undef],defers:=[]} w
 have hta:=xI k
 have hn1:q≠w.heap.size:=by omega
 have hn4:w.heap.size≠q:=by omega
 gi_wp2
 refine⟨rfl,_,rfl,_,results_none rfl _ _ _,rfl,rfl,?_,?_⟩
 ·exact(hq.set 0 _).alloc _
 ·exact jZ (eH _ _ _ _) _
def FI:Value:=.agg #[.int .u64 0,.int .i64 0,.int .i64 0,.bool false,.int .i64 0,.slice none 0 0,.slice none 0 0,.slice none 0 0,.slice none 0 0,.slice none 0 0]
def DJ(R:Ud)(w:World)(e:Ending)(w':World):Prop:=
 Below w.heap.size w w'/\match R with
  | .ok h=>∃v,e=.returned (.tuple #[v,.int .i64 0])/\acd w' w.heap.size v h
  | .er c=>e=.returned (.tuple #[FI,.int .i64 (c:Int)])
theorem fV{α:Type}{k:Nat}{en:α->List Value}{T:TypeId}{W:World}{N B:Nat}{v:Value}{zs:List α}(h:aX T k en W N v zs)(hB:B<N)(i:Nat)(u:Value):aX T k en (W.setCell ⟨B,i,none⟩ u) N v zs:=bQ h (eH _ _ _ _) hB
theorem Ih(caps:Array Value)(R:Ud)(w:World)
  (H:Calls (par.ah par.Hm) 42 caps ((w.alloc (.cells #[.int .u64 0,.int .i64 0,.int .i64 0,.bool false,.int .i64 0,.slice none 0 0,.slice none 0 0,.slice none 0 0,.slice none 0 0,.slice none 0 0] 34)).alloc (.cells #[.int .i64 0] 36)) λe w'=>Ig R ((w.alloc (.cells #[.int .u64 0,.int .i64 0,.int .i64 0,.bool false,.int .i64 0,.slice none 0 0,.slice none 0 0,.slice none 0 0,.slice none 0 0,.slice none 0 0] 34)).alloc (.cells #[.int .i64 0] 36)) e w'):
  Calls (par.ah par.Hm) 41 #[.func (.func 42) #[] caps] w λe w'=>DJ R w e w':=by
 have hmf:∀(fn:Fn)(first cap:Array Value)(w:World),(Instr.makeFunc fn first cap).run (par.ah par.Hm) w=.ok (.func fn first cap) w:=λ_ _ _ _=>rfl
 have HH:=Lib.hid H
 clear H
 have Yc:aW ((w.alloc (.cells #[.int .u64 0,.int .i64 0,.int .i64 0,.bool false,.int .i64 0,.slice none 0 0,.slice none 0 0,.slice none 0 0,.slice none 0 0,.slice none 0 0] 34)).alloc (.cells #[.int .i64 0] 36)) w.heap.size #[.int .u64 0,.int .i64 0,.int .i64 0,.bool false,.int .i64 0,.slice none 0 0,.slice none 0 0,.slice none 0 0,.slice none 0 0,.slice none 0 0] 34:=by exact bk
 have KE0:aW ((w.alloc (.cells #[.int .u64 0,.int .i64 0,.int .i64 0,.bool false,.int .i64 0,.slice none 0 0,.slice none 0 0,.slice none 0 0,.slice none 0 0,.slice none 0 0] 34)).alloc (.cells #[.int .i64 0] 36)) (w.heap.size+1) #[.int .i64 0] 36:=by exact bk
 have hb0:Below w.heap.size w ((w.alloc (.cells #[.int .u64 0,.int .i64 0,.int .i64 0,.bool false,.int .i64 0,.slice none 0 0,.slice none 0 0,.slice none 0 0,.slice none 0 0,.slice none 0 0] 34)).alloc (.cells #[.int .i64 0] 36)):=by exact bm
 refine(callsIn_wide (n:=5)).1 ?_
 refine callsIn_of_wp_marks (par.adg (H:=par.Hm)) rfl trivial ?_ rfl
 simp only[Tryz.ntmps41,List.size_toArray,List.length_cons,List.length_nil,Nat.reduceAdd,Nat.reduceSub,Array.replicate_succ,Array.replicate_zero,List.push_toArray,List.append_toArray,List.nil_append,List.cons_append]
 gi_wp2_with fail
 refine⟨trivial,(callsIn_wide.2 HH.out).mono ?_⟩;rintro e w1 ⟨b1,h1⟩
 have KR:=Yc.tr b1
 have KE:=KE0.tr b1
 have hb1:Hid (Below w.heap.size w w1):=Lib.hid (hb0.trans (b1.mono (by simp)))
 clear Yc KE0 hb0
 rcases R with⟨h⟩|c
 ·obtain⟨v,rfl,hv⟩:=h1
  have HV:=Lib.hid hv
  clear hv HH b1
  obtain⟨lv,hvv,ov,fv,rv,rfl,o1,o2,o3,o4,o5⟩:=HV.out
  have O1:=Lib.hid (o1.lift (show w.heap.size+1+1<=_ by simp))
  have O2:=Lib.hid (o2.lift (show w.heap.size+1+1<=_ by simp))
  have O3:=Lib.hid (o3.lift (show w.heap.size+1+1<=_ by simp))
  have O4:=Lib.hid (o4.lift (show w.heap.size+1+1<=_ by simp))
  have O5:=Lib.hid (o5.lift (show w.heap.size+1+1<=_ by simp))
  clear HV o1 o2 o3 o4 o5
  obtain⟨pa,pl,pc,rfl⟩:=aZ (O1.out.sees aN)
  obtain⟨qa,ql,qc,rfl⟩:=aZ (O2.out.sees aN)
  obtain⟨ra,rl,rc,rfl⟩:=aZ (O3.out.sees aN)
  obtain⟨sa,sl,sc,rfl⟩:=aZ (O4.out.sees aN)
  obtain⟨ta,tl,tc,rfl⟩:=aZ (O5.out.sees aN)
  obtain⟨lR,cR,fR⟩:=KR.get
  obtain⟨lE,cE,fE⟩:=KE.get
  have cE0:=cE 0
  gi_wp2_with fail
  refine⟨by simp,.inr ⟨λ_=>by omega,_,_,86,#[.pointer (some ⟨w.heap.size+1,0,none⟩)],rfl,by simp[invoke,go_sem],λ_ _=>trivial,(Yg _ _ _).mono ?_⟩⟩
  rintro e u' w'' ⟨rfl,rfl,rfl⟩
  refine⟨.tuple #[.agg #[.int .u64 h.base,.int .i64 h.cap,.int .i64 h.tt,.bool (h.cyc==1),.int .i64 h.scan,.slice pa pl pc,.slice qa ql qc,.slice ra rl rc,.slice sa sl sc,.slice ta tl tc],.int .i64 0],by simp only[results,Tryz.results41];go_simp,?_,_,rfl,_,_,_,_,_,rfl,?_,?_,?_,?_,?_⟩
  ·have hbb:=hb1.out
   repeat(first|with_reducible exact hbb|with_reducible refine CQ ?_ (by first|(simp;done)|(simp;omega)) _)
  ·exact aX.lift (B:=w.heap.size+1+1) (by repeat(first|with_reducible exact O1.out|with_reducible refine fV ?_ (by omega) _ _)) (by omega)
  ·exact aX.lift (B:=w.heap.size+1+1) (by repeat(first|with_reducible exact O2.out|with_reducible refine fV ?_ (by omega) _ _)) (by omega)
  ·exact aX.lift (B:=w.heap.size+1+1) (by repeat(first|with_reducible exact O3.out|with_reducible refine fV ?_ (by omega) _ _)) (by omega)
  ·exact aX.lift (B:=w.heap.size+1+1) (by repeat(first|with_reducible exact O4.out|with_reducible refine fV ?_ (by omega) _ _)) (by omega)
  ·exact aX.lift (B:=w.heap.size+1+1) (by repeat(first|with_reducible exact O5.out|with_reducible refine fV ?_ (by omega) _ _)) (by omega)
 ·dsimp only at h1
  subst h1
  unfold thrown
  clear HH b1
  gi_wp2_with fail
  refine⟨by simp,.inr ⟨λ_=>by omega,_,_,86,#[.pointer (some ⟨w.heap.size+1,0,none⟩)],rfl,by simp[invoke,go_sem],λ_ _=>trivial,(OJ _ _ _ _ _ KE).mono ?_⟩⟩
  rintro e u' w'' ⟨rfl,rfl,qe,qk⟩
  obtain⟨zl,zc,zf⟩:=qe.get
  have zc0:=zc 0
  obtain⟨yl,yc,yf⟩:=(iO KR qk (λe=>by have e:w.heap.size=w.heap.size+1:=Option.some.inj e;omega)).get
  refine⟨.tuple #[FI,.int .i64 (c:Int)],by simp only[results,Tryz.results41,FI];go_simp,?_,rfl⟩
  exact KF hb1.out qk (Nat.le_succ _)
theorem OL(s:ByteArray)(W:World)(n:Nat)(hs:s.size<10000000000)(K0:aW W n #[.string s] 9):Calls (par.ah par.Hm) 42 #[.pointer (some ⟨n,0,none⟩)] W λe w'=>Ig (iR s) W e w':=by
 have lN:=K0.lt
 obtain⟨l0,c0,f0⟩:=K0.get
 have c00:=c0 0
 have Yc:aW (W.alloc (.cells #[.int .u64 0,.int .i64 0,.int .i64 0,.bool false,.int .i64 0,.slice none 0 0,.slice none 0 0,.slice none 0 0,.slice none 0 0,.slice none 0 0] 34)) W.heap.size #[.int .u64 0,.int .i64 0,.int .i64 0,.bool false,.int .i64 0,.slice none 0 0,.slice none 0 0,.slice none 0 0,.slice none 0 0,.slice none 0 0] 34:=aW.new _ _ _
 have HI:=Lib.hid (Uf s (W.alloc (.cells #[.int .u64 0,.int .i64 0,.int .i64 0,.bool false,.int .i64 0,.slice none 0 0,.slice none 0 0,.slice none 0 0,.slice none 0 0,.slice none 0 0] 34)) hs)
 have hb0:Below W.heap.size W (W.alloc (.cells #[.int .u64 0,.int .i64 0,.int .i64 0,.bool false,.int .i64 0,.slice none 0 0,.slice none 0 0,.slice none 0 0,.slice none 0 0,.slice none 0 0] 34)):=by exact bm
 generalize iR s=R at*
 go_enter (par.adh (H:=par.Hm)),Tryz.ntmps42
 go_wp2_with fail
 refine HI.out.mono ?_;rintro e w1 ⟨b1,h1⟩
 have KR:=Yc.tr b1
 have hb1:Hid (Below W.heap.size W w1):=Lib.hid (hb0.trans (b1.mono (by simp)))
 clear Yc hb0 HI
 rcases R with⟨h⟩|c
 ·obtain⟨v,rfl,hv⟩:=h1
  have HV:=Lib.hid hv
  clear hv b1
  obtain⟨lv,hvv,ov,fv,rv,rfl,o1,o2,o3,o4,o5⟩:=HV.out
  have O1:=Lib.hid (o1.lift (show W.heap.size+1<=_ by simp))
  have O2:=Lib.hid (o2.lift (show W.heap.size+1<=_ by simp))
  have O3:=Lib.hid (o3.lift (show W.heap.size+1<=_ by simp))
  have O4:=Lib.hid (o4.lift (show W.heap.size+1<=_ by simp))
  have O5:=Lib.hid (o5.lift (show W.heap.size+1<=_ by simp))
  clear HV o1 o2 o3 o4 o5
  obtain⟨pa,pl,pc,rfl⟩:=aZ (O1.out.sees aN)
  obtain⟨qa,ql,qc,rfl⟩:=aZ (O2.out.sees aN)
  obtain⟨ra,rl,rc,rfl⟩:=aZ (O3.out.sees aN)
  obtain⟨sa,sl,sc,rfl⟩:=aZ (O4.out.sees aN)
  obtain⟨ta,tl,tc,rfl⟩:=aZ (O5.out.sees aN)
  obtain⟨lR,cR,fR⟩:=KR.get
  go_wp2_with fail
  refine bodyPost_ret (v:=.agg #[.int .u64 h.base,.int .i64 h.cap,.int .i64 h.tt,.bool (h.cyc==1),.int .i64 h.scan,.slice pa pl pc,.slice qa ql qc,.slice ra rl rc,.slice sa sl sc,.slice ta tl tc]) (by simp only[results,Tryz.results42];go_simp) rfl ⟨?_,_,rfl,_,_,_,_,_,rfl,?_,?_,?_,?_,?_⟩
  ·have hbb:=hb1.out
   repeat(first|with_reducible exact hbb|with_reducible refine CQ ?_ (by first|(simp;done)|(simp;omega)) _)
  ·exact aX.lift (B:=W.heap.size+1) (by repeat(first|with_reducible exact O1.out|with_reducible refine fV ?_ (by omega) _ _)) (by omega)
  ·exact aX.lift (B:=W.heap.size+1) (by repeat(first|with_reducible exact O2.out|with_reducible refine fV ?_ (by omega) _ _)) (by omega)
  ·exact aX.lift (B:=W.heap.size+1) (by repeat(first|with_reducible exact O3.out|with_reducible refine fV ?_ (by omega) _ _)) (by omega)
  ·exact aX.lift (B:=W.heap.size+1) (by repeat(first|with_reducible exact O4.out|with_reducible refine fV ?_ (by omega) _ _)) (by omega)
  ·exact aX.lift (B:=W.heap.size+1) (by repeat(first|with_reducible exact O5.out|with_reducible refine fV ?_ (by omega) _ _)) (by omega)
 ·dsimp only at h1
  subst h1
  unfold thrown
  go_wp2_with fail
  exact⟨rfl,hb1.out,rfl⟩
theorem parse_any(s:ByteArray)(w:World)(hs:s.size<10000000000):Calls (par.ah par.Hm) 14 #[.string s] w λe w'=>DJ (iR s) w e w':=by
 have hmf:∀(fn:Fn)(first cap:Array Value)(w:World),(Instr.makeFunc fn first cap).run (par.ah par.Hm) w=.ok (.func fn first cap) w:=λ_ _ _ _=>rfl
 have H1:=Lib.hid λW n K0=>OL s W n hs K0
 generalize iR s=R at*
 have Yc:aW ((w.alloc (.cells #[.string s] 9)).alloc (.cells #[.int .u64 0,.int .i64 0,.int .i64 0,.bool false,.int .i64 0,.slice none 0 0,.slice none 0 0,.slice none 0 0,.slice none 0 0,.slice none 0 0] 34)) (w.heap.size+1) #[.int .u64 0,.int .i64 0,.int .i64 0,.bool false,.int .i64 0,.slice none 0 0,.slice none 0 0,.slice none 0 0,.slice none 0 0,.slice none 0 0] 34:=by exact bk
 have KS0:aW ((w.alloc (.cells #[.string s] 9)).alloc (.cells #[.int .u64 0,.int .i64 0,.int .i64 0,.bool false,.int .i64 0,.slice none 0 0,.slice none 0 0,.slice none 0 0,.slice none 0 0,.slice none 0 0] 34)) w.heap.size #[.string s] 9:=by exact bk
 have hb0:Below w.heap.size w ((w.alloc (.cells #[.string s] 9)).alloc (.cells #[.int .u64 0,.int .i64 0,.int .i64 0,.bool false,.int .i64 0,.slice none 0 0,.slice none 0 0,.slice none 0 0,.slice none 0 0,.slice none 0 0] 34)):=by exact bm
 go_enter (par.ac2 (H:=par.Hm)),Tryz.ntmps14
 go_wp2_with fail
 refine(Ih _ R _ (H1.out _ _ ((KS0.alloc _).alloc _))).mono ?_
 rintro e w1 ⟨b1,h1⟩
 have KR:=Yc.tr b1
 have hb1:Hid (Below w.heap.size w w1):=Lib.hid (hb0.trans (b1.mono (by first|(simp;done)|(simp;omega))))
 clear Yc KS0 hb0 H1
 rcases R with⟨h⟩|c
 ·obtain⟨v,rfl,hv⟩:=h1
  have HV:=Lib.hid hv
  clear hv b1
  obtain⟨lv,hvv,ov,fv,rv,rfl,o1,o2,o3,o4,o5⟩:=HV.out
  have O1:=Lib.hid (o1.lift (show w.heap.size+1+1<=_ by simp))
  have O2:=Lib.hid (o2.lift (show w.heap.size+1+1<=_ by simp))
  have O3:=Lib.hid (o3.lift (show w.heap.size+1+1<=_ by simp))
  have O4:=Lib.hid (o4.lift (show w.heap.size+1+1<=_ by simp))
  have O5:=Lib.hid (o5.lift (show w.heap.size+1+1<=_ by simp))
  clear HV o1 o2 o3 o4 o5
  obtain⟨pa,pl,pc,rfl⟩:=aZ (O1.out.sees aN)
  obtain⟨qa,ql,qc,rfl⟩:=aZ (O2.out.sees aN)
  obtain⟨ra,rl,rc,rfl⟩:=aZ (O3.out.sees aN)
  obtain⟨sa,sl,sc,rfl⟩:=aZ (O4.out.sees aN)
  obtain⟨ta,tl,tc,rfl⟩:=aZ (O5.out.sees aN)
  obtain⟨lR,cR,fR⟩:=KR.get
  go_wp2_with fail
  refine bodyPost_ret (v:=.tuple #[.agg #[.int .u64 h.base,.int .i64 h.cap,.int .i64 h.tt,.bool (h.cyc==1),.int .i64 h.scan,.slice pa pl pc,.slice qa ql qc,.slice ra rl rc,.slice sa sl sc,.slice ta tl tc],.int .i64 0]) (by simp only[results,Tryz.results14];go_simp) rfl ⟨?_,_,rfl,_,_,_,_,_,rfl,?_,?_,?_,?_,?_⟩
  ·have hbb:=hb1.out
   repeat(first|with_reducible exact hbb|with_reducible refine CQ ?_ (by first|(simp;done)|(simp;omega)) _)
  ·exact aX.lift (B:=w.heap.size+1+1) (by repeat(first|with_reducible exact O1.out|with_reducible refine fV ?_ (by omega) _ _)) (by omega)
  ·exact aX.lift (B:=w.heap.size+1+1) (by repeat(first|with_reducible exact O2.out|with_reducible refine fV ?_ (by omega) _ _)) (by omega)
  ·exact aX.lift (B:=w.heap.size+1+1) (by repeat(first|with_reducible exact O3.out|with_reducible refine fV ?_ (by omega) _ _)) (by omega)
  ·exact aX.lift (B:=w.heap.size+1+1) (by repeat(first|with_reducible exact O4.out|with_reducible refine fV ?_ (by omega) _ _)) (by omega)
  ·exact aX.lift (B:=w.heap.size+1+1) (by repeat(first|with_reducible exact O5.out|with_reducible refine fV ?_ (by omega) _ _)) (by omega)
 ·dsimp only at h1
  subst h1
  unfold FI
  clear b1
  obtain⟨lR,cR,fR⟩:=KR.get
  go_wp2_with fail
  refine bodyPost_ret (v:=.tuple #[FI,.int .i64 (c:Int)]) (by simp only[results,Tryz.results14,FI];go_simp) rfl ⟨?_,rfl⟩
  have hbb:=hb1.out
  repeat(first|with_reducible exact hbb|with_reducible refine CQ ?_ (by first|(simp;done)|(simp;omega)) _)
end Go.Proofs.YtlncengggmgdgaaGreat.ps
