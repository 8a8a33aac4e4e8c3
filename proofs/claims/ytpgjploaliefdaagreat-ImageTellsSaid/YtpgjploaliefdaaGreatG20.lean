/- words.Put; image.Refs. No conditions. -/
import Derived.Test.YtpgjploaliefdaaGreatFl
import Derived.Test.YtpgjploaliefdaaGreatG03
namespace Go.Proofs.YtpgjploaliefdaaGreat.im
open Go Go.RowKit cm cw ga gr ob hd
open fr (OwnB leB qE iI aG zZ jU aW aX lZ aF qB)
set_option linter.unusedVariables false
set_option linter.unusedSimpArgs false
set_option maxRecDepth 100000
set_option maxHeartbeats 2000000
theorem Rq(v:Value)(xs:List Nat)(x B n:Nat)(w:World)(hn:n<=8)(hx:x<18446744073709551616)(hv:OwnB w B v xs)(hl:xs.length<10000000)(hB:B<=w.heap.size):
  Calls Tryz.prog 76 #[v,.int .u64 x,.int .i64 n] w λe w'=>∃v',e=.returned v'/\OwnB w' B v' (xs++leB n x)/\Below B w w':=by
 go_enter Tryz.func76,Tryz.ntmps76
 go_wp2_with fail
 go_loopw [0,1,8] (λb y i wr=>∃k:Nat,k<=n/\i=.int .i64 k/\y=.int .u64 ((x/256^k:Nat):Int)/\Hid (OwnB wr B b (xs++leB k x))/\Hid (Below B w wr)) (λ_ _ i _=>n-(intOf i).toNat)
 case atStart=>exact⟨0,Nat.zero_le _,rfl,by simp,Lib.hid (by simpa [leB]using hv),Lib.hid (Below.refl _ _)⟩
 case round=>
  obtain⟨k,hk,rfl,rfl,ho,hb⟩:=hrel
  by_cases hlk:k<n
  ·have hq:x/256^k<18446744073709551616:=Nat.lt_of_le_of_lt (Nat.div_le_self _ _) hx
   have hq2:=qE k x
   have hq3:x/256^(k+1)=x/256^k/256:=by rw[Nat.pow_succ,Nat.div_div_eq_div_mul]
   have HQ:=Lib.hid hq2
   have HR:=Lib.hid hq3
   clear hq2 hq3
   generalize x/256^k=q at*
   have hwr:=hb.out.size
   go_wp2_with (at_builtin;refine zZ _ rfl _ _ rfl B u0 (xs++leB k x) (q%256) wr.heap.size 1 rfl rfl ?c0 ?c1 ?c2 ?c3 ?c4)
   case c0=>exact ho.out.tr (by exact bm)
   case c1=>simp[qB]
   case c2=>simp[iI];omega
   case c3=>simp;omega
   case c4=>
   intro v' w2 ho2 hg hat
   have H2:Hid (OwnB w2 B v' (xs++leB (k+1) x)):=Lib.hid (by rw[HQ.out];simpa using ho2)
   have H3:Hid (Below B w w2):=Lib.hid (fr.grown_below hg (jU hb.out hB _) hB ho.out.block)
   clear ho2 hg hat
   go_wp2_with fail
   refine⟨⟨k+1,by omega,by go_num,?_,H2,H3⟩,by simp[intOf];omega⟩
   rw[HR.out]
   rfl
  ·obtain rfl:k=n:=by omega
   go_wp2_with fail
   go_ret
   exact⟨_,rfl,ho.out,hb.out⟩
def eP(xs:List Int):List Nat:=xs.flatMap λx=>leB 8 x.toNat
theorem Cj(xs:List Int)(k:Nat)(h:k<xs.length):eP (xs.take (k+1))=eP (xs.take k)++leB 8 (xs.getD k 0).toNat:=by
 unfold eP
 rw[List.take_add_one,List.getElem?_eq_getElem h,List.flatMap_append]
 congr 1
 simp[List.getD,h]
theorem nG(xs:List Int):(eP xs).length=8*xs.length:=by
 unfold eP
 induction xs with
 |nil=>rfl
 |cons x xs ih=>rw[List.flatMap_cons,List.length_append,ih,iI];simp;omega
theorem VD(W:World):(convert 91 9 (.slice none 0 0)).run Tryz.prog W=.ok (.string ⟨#[]⟩) W:=by kernel_rfl
theorem VE(u:Value)(xs:List Int)(w:World)(hu:aN w u xs)(hz:Small xs)(hl:xs.length<1000000):
  Calls Tryz.prog 47 #[u] w λe w'=>e=.returned (.string (aG (eP xs)))/\Below w.heap.size w w':=by
 obtain⟨ad,b,off,cap,rfl,⟨h1,h2⟩,h3,⟨h4,h4'⟩,h5,h6⟩:=hu
 have HZ:Hid (∀i,0<=xs.getD i 0/\xs.getD i 0<18446744073709551616):=hz
 have H1:=Lib.hid h1
 have H6:=Lib.hid h6
 clear h1 h2 h6 hz
 generalize hn:xs.length=n at*
 have HN:=Lib.hid hn
 clear hn
 go_enter Tryz.func47,Tryz.ntmps47
 go_wp2_with fail
 go_loopw [8,3] (λi v wr=>∃k:Nat,k<=n/\i=.int .i64 k/\(k=0->v=.slice none 0 0)/\Hid (OwnB wr w.heap.size v (eP (xs.take k)))/\Hid (Below w.heap.size w wr)) (λi _ _=>n-(intOf i).toNat)
 case atStart=>exact⟨0,Nat.zero_le _,rfl,λ_=>rfl,OwnB.nil _ _,Below.refl _ _⟩
 case round=>
  obtain⟨k,hk,rfl,hv0,ho,hb⟩:=hrel
  by_cases hlk:k<n
  ·clear hv0
   obtain rfl:=H1.out (by omega)
   have hx:=(H6.out.block (hb.out.block b h5)).at k hlk
   have hsm:=HZ.out k
   have HS:=Lib.hid (Cj xs k (by have:=HN.out;omega))
   obtain⟨X,hX⟩:=Int.eq_ofNat_of_zero_le hsm.1
   rw[hX]at hx hsm HS
   have HS2:Hid (eP (xs.take (k+1))=eP (xs.take k)++leB 8 X):=HS.out
   have hxx:X<18446744073709551616:=by omega
   have hlen:(eP (xs.take k)).length<10000000:=by
    rw[nG,List.length_take]
    have:=HN.out
    omega
   have hws:=hb.out.size
   clear hX hsm HS
   generalize eP (xs.take k)=done at*
   have HC:Hid (∀v,OwnB wr w.heap.size v done->Calls Tryz.prog 76 #[v,.int .u64 X,.int .i64 8] wr λe w'=>∃v',e=.returned v'/\OwnB w' w.heap.size v' (done++leB 8 X)/\Below w.heap.size wr w'):=Lib.hid λv hv=>Rq v done X w.heap.size 8 wr (Nat.le_refl _) hxx hv hlen hws
   go_wp2_with fail
   refine(HC.out _ ho.out).mono ?_;rintro e w2 ⟨v',rfl,ho2,hb2⟩
   have H2:Hid (OwnB w2 w.heap.size v' (eP (xs.take (k+1)))):=by show OwnB _ _ _ _;rw[HS2.out];exact ho2
   have H3:Hid (Below w.heap.size w w2):=hb.out.trans hb2
   clear ho2 hb2
   go_wp2_with fail
   exact⟨⟨k+1,by omega,by go_num,(λe=>absurd e (Nat.succ_ne_zero k)),H2,H3⟩,by simp[intOf];omega⟩
  ·obtain rfl:k=n:=by omega
   have hxk:xs.take k=xs:=List.take_of_length_le (by have:=HN.out;omega)
   rw[hxk]at ho
   rcases Nat.eq_zero_or_pos k with h0|h0
   ·have hnil:xs=[]:=List.eq_nil_of_length_eq_zero (by have:=HN.out;omega)
    subst hnil
    obtain rfl:=hv0 h0
    have hcv:=VD wr
    clear hv0 ho
    go_wp2_with fail
    go_ret
    exact⟨rfl,hb.out⟩
   ·clear hv0
    have hs:=ho.out.str (by rw[nG];have:=HN.out;omega)
    have hs2:(convert 91 9 u3).run Tryz.prog wr=.ok (.string (aG (eP xs))) wr:=hs
    clear hs
    go_wp2_with fail
    go_ret
    exact⟨rfl,hb.out⟩
def uP(n:Nat):List UInt8:=(aG (aW n)).data.toList
def eU(x:Int):Bool:=decide (x=0)||decide (mD x=0)
def bn(xs:List Int):List UInt8:=xs.flatMap λx=>uP (gB x).toNat
def jO(xs:List Int):ByteArray×Int:=if xs.all eU then(⟨(bn xs).toArray⟩,0)else(⟨#[]⟩,3)
theorem ED(xs:List Int)(k:Nat)(h:k<xs.length):bn (xs.take (k+1))=bn (xs.take k)++uP (gB (xs.getD k 0)).toNat:=by
 unfold bn
 rw[List.take_add_one,List.getElem?_eq_getElem h,List.flatMap_append]
 congr 1
 simp[List.getD,h]
theorem Il{n:Nat}(h:n<18446744073709551616):(uP n).length<=10/\0<(uP n).length:=by
 have e:(uP n).length=(aW n).length:=by
  unfold uP
  rw[Array.length_toList]
  exact aF _
 rw[e]
 exact⟨aX h,lZ n⟩
theorem Nr{x:Int}(h:0<=x/\x<18446744073709551616):0<=gB x/\gB x<18446744073709551616:=by
 unfold gB
 split<;>omega
theorem nH(xs:List Int)(hz:∀x∈xs,0<=x/\x<18446744073709551616):(bn xs).length<=10*xs.length:=by
 induction xs with
 |nil=>exact Nat.le_refl _
 |cons x xs ih=>
  have h1:=ih (λy hy=>hz y (List.mem_cons_of_mem _ hy))
  have h2:=Nr (hz x (by simp))
  have h3:=Il (n:=(gB x).toNat) (by omega)
  show(uP _++bn xs).length<=_
  rw[List.length_append,List.length_cons]
  omega
theorem jW{xs:List Int}(hz:Small xs):∀x∈xs,0<=x/\x<18446744073709551616:=λx hx=>by
 obtain⟨i,hi,rfl⟩:=List.getElem_of_mem hx
 have:=hz i
 simpa [List.getD,hi]using this
end Go.Proofs.YtpgjploaliefdaaGreat.im
namespace Go.Proofs.YtpgjploaliefdaaGreat.im
open Go Go.RowKit cm cw ga gr ob hd
open fr (OwnB leB qE iI aG zZ jU aW aX lZ aF qB put_any)
set_option linter.unusedVariables false
set_option linter.unusedSimpArgs false
set_option maxRecDepth 100000
set_option maxHeartbeats 2000000
theorem wK(u:Value)(xs:List Int)(w:World)(hu:aN w u xs)(hz:Small xs)(hl:xs.length<1000000):
  Calls Tryz.prog 17 #[u] w λe w'=>e=.returned (.tuple #[.string (jO xs).1,.int .i64 (jO xs).2])/\Below w.heap.size w w':=by
 obtain⟨ad,b,off,cap,rfl,⟨h1,h2⟩,h3,⟨h4,h4'⟩,h5,h6⟩:=hu
 have HZ:Hid (∀i,0<=xs.getD i 0/\xs.getD i 0<18446744073709551616):=hz
 have HZM:Hid (∀x∈xs,0<=x/\x<18446744073709551616):=jW hz
 have H1:=Lib.hid h1
 have H6:=Lib.hid h6
 have HR:Hid (jO xs=if xs.all eU then(⟨(bn xs).toArray⟩,0)else(⟨#[]⟩,3)):=rfl
 have HB0:Hid (xY w.heap.size w.heap.size [] (w.alloc (.cells #[.pointer none,.slice none 0 0] 93))):=xY.fresh w
 have hB0:Hid (Below w.heap.size w (w.alloc (.cells #[.pointer none,.slice none 0 0] 93))):=Lib.hid (by exact bm)
 generalize jO xs=R at*
 clear h1 h2 h6 hz
 generalize hn:xs.length=n at*
 have HN:=Lib.hid hn
 clear hn
 go_enter Tryz.func17,Tryz.ntmps17
 go_wp2_with fail
 go_loopw [11] (λi wr=>∃k:Nat,k<=n/\i=.int .i64 k/\Hid (∀j,j<k->eU (xs.getD j 0)=true)/\Hid (xY w.heap.size w.heap.size (bn (xs.take k)) wr)/\Hid (Below w.heap.size w wr)) (λi _=>n-(intOf i).toNat)
 case atStart=>exact⟨0,Nat.zero_le _,rfl,λj hj=>absurd hj (Nat.not_lt_zero _),HB0.out,hB0.out⟩
 case round=>
  obtain⟨k,hk,rfl,hok,hB,hb⟩:=hrel
  clear HB0 hB0
  have hws:=hb.out.size
  by_cases hlk:k<n
  ·obtain rfl:=H1.out (by omega)
   have hx:=(H6.out.block (hb.out.block b h5)).at k hlk
   have hsm:=HZ.out k
   have hdl:(bn (xs.take k)).length<=10000000:=by
    have:=nH (xs.take k) (λx hx=>HZM.out x (List.mem_of_mem_take hx))
    rw[List.length_take]at this
    omega
   have HS:Hid (bn (xs.take (k+1))=bn (xs.take k)++uP (gB (xs.getD k 0)).toNat):=ED xs k (by have:=HN.out;omega)
   have FV:Hid (eU (xs.getD k 0)=true->∀j,j<k+1->eU (xs.getD j 0)=true):=λe j hj=>by
    rcases Nat.lt_or_ge j k with h|h
    ·exact hok.out j h
    ·obtain rfl:j=k:=by omega
     exact e
   have Ld:Hid (eU (xs.getD k 0)=false->R=(⟨#[]⟩,3)):=λe=>by
    rw[HR.out,if_neg]
    intro e2
    have hkl:k<xs.length:=by have:=HN.out;omega
    have h3:=List.all_eq_true.1 e2 xs[k] (List.getElem_mem hkl)
    have h4:xs.getD k 0=xs[k]:=by simp[List.getD,hkl]
    rw[h4,h3]at e
    cases e
   clear hok
   generalize xs.getD k 0=x at*
   generalize bn (xs.take k)=done at*
   obtain⟨hx1,hx2⟩:=hsm
   have hav:=Nr ⟨hx1,hx2⟩
   obtain⟨Y,hY⟩:=Int.eq_ofNat_of_zero_le hav.1
   have hYl:Y<18446744073709551616:=by omega
   have HA:Hid (∀W,Calls Tryz.prog 52 #[.int .u64 x] W λe w'=>e=.returned (.tuple #[.int .u64 (gB x),.int .i64 (mD x)])/\W=w'):=Lib.hid λW=>lJ x W hx1 hx2
   have HP:Hid (∀W,Calls Tryz.prog 45 #[.int .u64 Y] W λe w'=>e=.returned (.string (aG (aW Y)))/\Below W.heap.size W w'):=Lib.hid λW=>put_any Y W hYl
   have YM:=Il hYl
   have HU:Hid (uP Y=(aG (aW Y)).data.toList):=rfl
   have HUL:(aG (aW Y)).size<=10:=by
    have:=YM.1
    rw[HU.out,Array.length_toList]at this
    exact this
   rw[hY]at HA HS
   have HS2:Hid (bn (xs.take (k+1))=done++(aG (aW Y)).data.toList):=HS.out
   clear HS HU YM
   generalize aG (aW Y)=S at*
   by_cases h0:x=0
   ·subst h0
    obtain rfl:Y=0:=by
     have:gB 0=0:=rfl
     omega
    have HN1:=Lib.hid (FV.out rfl)
    clear FV Ld
    go_wp2_with fail
    refine(HP.out _).mono ?_;rintro e' w1 ⟨rfl,k1⟩
    have HB1:Hid (xY w.heap.size w.heap.size done w1):=Lib.hid (hB.out.tr k1)
    have hb1:Hid (Below w.heap.size w w1):=Lib.hid (by have:=hb.out;exact bm)
    have Fb:=hb1.out.size
    clear k1 hB hb HP
    go_wp2_with fail
    refine(write_any w.heap.size w.heap.size done S _ HB1.out (by omega) Fb).mono ?_;rintro e' w2 ⟨rfl,hB2,k2⟩
    have HB2:=Lib.hid hB2
    have hb2:Hid (Below w.heap.size w w2):=Lib.hid (hb1.out.trans k2)
    clear hB2 k2 HB1 hb1
    go_wp2_with fail
    exact⟨⟨k+1,by omega,by go_num,HN1.out,by show xY _ _ _ _;rw[HS2.out];exact HB2.out,hb2.out⟩,by simp[intOf];omega⟩
   ·have h0b:(x==0)=false:=beq_eq_false_iff_ne.mpr h0
    by_cases h1:mD x=0
    ·have HN1:=Lib.hid (FV.out (by simp[eU,h1]))
     rw[h1]at HA
     clear FV Ld
     go_wp2_with fail
     refine(HA.out _).mono ?_;rintro e ww ⟨rfl,rfl⟩
     go_wp2_with fail
     refine(HP.out _).mono ?_;rintro e' w1 ⟨rfl,k1⟩
     have HB1:Hid (xY w.heap.size w.heap.size done w1):=Lib.hid (hB.out.tr k1)
     have hb1:Hid (Below w.heap.size w w1):=Lib.hid (by have:=hb.out;exact bm)
     have Fb:=hb1.out.size
     clear k1 hB hb HP
     go_wp2_with fail
     refine(write_any w.heap.size w.heap.size done S _ HB1.out (by omega) Fb).mono ?_;rintro e' w2 ⟨rfl,hB2,k2⟩
     have HB2:=Lib.hid hB2
     have hb2:Hid (Below w.heap.size w w2):=Lib.hid (hb1.out.trans k2)
     clear hB2 k2 HB1 hb1
     go_wp2_with fail
     exact⟨⟨k+1,by omega,by go_num,HN1.out,by show xY _ _ _ _;rw[HS2.out];exact HB2.out,hb2.out⟩,by simp[intOf];omega⟩
    ·have h1b:(mD x==0)=false:=beq_eq_false_iff_ne.mpr h1
     have HR3:=Lib.hid (Ld.out (by simp[eU,h0,h1]))
     clear FV Ld
     generalize mD x=z at*
     go_wp2_with fail
     refine(HA.out _).mono ?_;rintro e ww ⟨rfl,rfl⟩
     go_wp2_with fail
     go_ret2
     exact⟨by rw[HR3.out];rfl,hb.out⟩
  ·obtain rfl:k=n:=by omega
   have hxk:xs.take k=xs:=List.take_of_length_le (by have:=HN.out;omega)
   rw[hxk]at hB
   have HR2:Hid (R=(⟨(bn xs).toArray⟩,0)):=by
    show _=_
    rw[HR.out,if_pos]
    rw[List.all_eq_true]
    intro x hx
    obtain⟨m,hm,rfl⟩:=List.mem_iff_getElem.1 hx
    have h3:=hok.out m (by have:=HN.out;omega)
    have h4:xs.getD m 0=xs[m]:=by simp[List.getD,hm]
    rw[h4]at h3
    exact h3
   go_wp2_with fail
   refine(yR w.heap.size w.heap.size (bn xs) _ hB.out hws).mono ?_;rintro e' w1 ⟨rfl,hB1,k1⟩
   have hb1:Hid (Below w.heap.size w w1):=Lib.hid (hb.out.trans k1)
   clear hB1 k1 hB hb
   go_wp2_with fail
   go_ret2
   exact⟨by rw[HR2.out];rfl,hb1.out⟩
end Go.Proofs.YtpgjploaliefdaaGreat.im
