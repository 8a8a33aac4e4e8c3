/- words.Put; image.Refs. No conditions. -/
import Derived.Test.YtlncengggmgdgaaGreatG22
import Derived.Test.YtlncengggmgdgaaGreatG30
import Derived.Test.YtlncengggmgdgaaGreatG26
set_option linter.unusedVariables false
set_option linter.unusedSimpArgs false
set_option maxRecDepth 100000
namespace Go.Proofs.YtlncengggmgdgaaGreat.im
open Go Go.RowKit cm cw ga gr ob hd
open fr (OwnB leB wY tJ dL Fg mg bM iZ xk dN qH)
attribute [local irreducible] par.ah
set_option maxHeartbeats 2000000
def uP(n:Nat):List UInt8:=(dL (bM n)).data.toList
def lu(x:Int):Bool:=decide (x=0)||decide (Oa x=0)
def iy(xs:List Int):List UInt8:=xs.flatMap λx=>uP (uo x).toNat
def zQ(xs:List Int):ByteArray×Int:=if xs.all lu then(⟨(iy xs).toArray⟩,0)else(⟨#[]⟩,3)
theorem OU(xs:List Int)(k:Nat)(h:k<xs.length):iy (xs.take (k+1))=iy (xs.take k)++uP (uo (xs.getD k 0)).toNat:=by
 unfold iy
 rw[List.take_add_one,List.getElem?_eq_getElem h,List.flatMap_append]
 congr 1
 simp[List.getD,h]
theorem Yy{n:Nat}(h:n<18446744073709551616):(uP n).length<=10/\0<(uP n).length:=by
 have e:(uP n).length=(bM n).length:=by
  unfold uP
  rw[Array.length_toList]
  exact dN _
 rw[e]
 exact⟨iZ h,xk n⟩
theorem Yz{x:Int}(h:0<=x/\x<18446744073709551616):0<=uo x/\uo x<18446744073709551616:=by
 unfold uo
 split<;>omega
theorem yT(xs:List Int)(hz:∀x∈xs,0<=x/\x<18446744073709551616):(iy xs).length<=10*xs.length:=by
 induction xs with
 |nil=>exact Nat.le_refl _
 |cons x xs ih=>
  have h1:=ih (λy hy=>hz y (List.mem_cons_of_mem _ hy))
  have h2:=Yz (hz x (by simp))
  have h3:=Yy (n:=(uo x).toNat) (by omega)
  show(uP _++iy xs).length<=_
  rw[List.length_append,List.length_cons]
  omega
theorem Uw{xs:List Int}(hz:Small xs):∀x∈xs,0<=x/\x<18446744073709551616:=λx hx=>by
 obtain⟨i,hi,rfl⟩:=List.getElem_of_mem hx
 have:=hz i
 simpa [List.getD,hi]using this
end Go.Proofs.YtlncengggmgdgaaGreat.im
namespace Go.Proofs.YtlncengggmgdgaaGreat.im
open Go Go.RowKit cm cw ga gr ob hd
open fr (OwnB leB wY tJ dL Fg mg bM iZ xk dN qH put_any)
attribute [local irreducible] par.ah
set_option maxHeartbeats 2000000
theorem Lr(u:Value)(xs:List Int)(w:World)(hu:Oq w u xs)(hz:Small xs)(hl:xs.length<1000000):
  Calls (par.ah par.Hm) 26 #[u] w λe w'=>e=.returned (.tuple #[.string (zQ xs).1,.int .i64 (zQ xs).2])/\Below w.heap.size w w':=by
 obtain⟨ad,b,off,cap,rfl,⟨h1,h2⟩,h3,⟨h4,h4'⟩,h5,h6⟩:=hu
 have HZ:Hid (∀i,0<=xs.getD i 0/\xs.getD i 0<18446744073709551616):=hz
 have HZM:Hid (∀x∈xs,0<=x/\x<18446744073709551616):=Uw hz
 have H1:=Lib.hid h1
 have H6:=Lib.hid h6
 have HR:Hid (zQ xs=if xs.all lu then(⟨(iy xs).toArray⟩,0)else(⟨#[]⟩,3)):=rfl
 have HB0:Hid (KQ w.heap.size w.heap.size [] (w.alloc (.cells #[.pointer none,.slice none 0 0] 116))):=KQ.fresh w
 have hB0:Hid (Below w.heap.size w (w.alloc (.cells #[.pointer none,.slice none 0 0] 116))):=Lib.hid (by exact bm)
 generalize zQ xs=R at*
 clear h1 h2 h6 hz
 generalize hn:xs.length=n at*
 have HN:=Lib.hid hn
 clear hn
 go_enter (par.ac9 (H:=par.Hm)),Tryz.ntmps26
 go_wp2_with fail
 go_loopw [11] (λi wr=>∃k:Nat,k<=n/\i=.int .i64 k/\Hid (∀j,j<k->lu (xs.getD j 0)=true)/\Hid (KQ w.heap.size w.heap.size (iy (xs.take k)) wr)/\Hid (Below w.heap.size w wr)) (λi _=>n-(intOf i).toNat)
 case atStart=>exact⟨0,Nat.zero_le _,rfl,λj hj=>absurd hj (Nat.not_lt_zero _),HB0.out,hB0.out⟩
 case round=>
  obtain⟨k,hk,rfl,hok,hB,hb⟩:=hrel
  clear HB0 hB0
  have hws:=hb.out.size
  by_cases hlk:k<n
  ·obtain rfl:=H1.out (by omega)
   have hx:=(H6.out.block (hb.out.block b h5)).at k hlk
   have hsm:=HZ.out k
   have hdl:(iy (xs.take k)).length<=10000000:=by
    have:=yT (xs.take k) (λx hx=>HZM.out x (List.mem_of_mem_take hx))
    rw[List.length_take]at this
    omega
   have HS:Hid (iy (xs.take (k+1))=iy (xs.take k)++uP (uo (xs.getD k 0)).toNat):=OU xs k (by have:=HN.out;omega)
   have HNX:Hid (lu (xs.getD k 0)=true->∀j,j<k+1->lu (xs.getD j 0)=true):=λe j hj=>by
    rcases Nat.lt_or_ge j k with h|h
    ·exact hok.out j h
    ·obtain rfl:j=k:=by omega
     exact e
   have HBD:Hid (lu (xs.getD k 0)=false->R=(⟨#[]⟩,3)):=λe=>by
    rw[HR.out,if_neg]
    intro e2
    have hkl:k<xs.length:=by have:=HN.out;omega
    have h3:=List.all_eq_true.1 e2 xs[k] (List.getElem_mem hkl)
    have h4:xs.getD k 0=xs[k]:=by simp[List.getD,hkl]
    rw[h4,h3]at e
    cases e
   clear hok
   generalize xs.getD k 0=x at*
   generalize iy (xs.take k)=done at*
   obtain⟨hx1,hx2⟩:=hsm
   have hav:=Yz ⟨hx1,hx2⟩
   obtain⟨Y,hY⟩:=Int.eq_ofNat_of_zero_le hav.1
   have hYl:Y<18446744073709551616:=by omega
   have HA:Hid (∀W,Calls (par.ah par.Hm) 63 #[.int .u64 x] W λe w'=>e=.returned (.tuple #[.int .u64 (uo x),.int .i64 (Oa x)])/\W=w'):=Lib.hid λW=>C9 x W hx1 hx2
   have HP:Hid (∀W,Calls (par.ah par.Hm) 65 #[.int .u64 Y] W λe w'=>e=.returned (.string (dL (bM Y)))/\Below W.heap.size W w'):=Lib.hid λW=>put_any Y W hYl
   have hul:=Yy hYl
   have HU:Hid (uP Y=(dL (bM Y)).data.toList):=rfl
   have HUL:(dL (bM Y)).size<=10:=by
    have:=hul.1
    rw[HU.out,Array.length_toList]at this
    exact this
   rw[hY]at HA HS
   have HS2:Hid (iy (xs.take (k+1))=done++(dL (bM Y)).data.toList):=HS.out
   clear HS HU hul
   generalize dL (bM Y)=S at*
   by_cases h0:x=0
   ·subst h0
    obtain rfl:Y=0:=by
     have:uo 0=0:=rfl
     omega
    have HN1:=Lib.hid (HNX.out rfl)
    clear HNX HBD
    go_wp2_with fail
    refine(HP.out _).mono ?_;rintro e' w1 ⟨rfl,k1⟩
    have HB1:Hid (KQ w.heap.size w.heap.size done w1):=Lib.hid (hB.out.tr k1)
    have hb1:Hid (Below w.heap.size w w1):=Lib.hid (by have:=hb.out;exact bm)
    have aeG:=hb1.out.size
    clear k1 hB hb HP
    go_wp2_with fail
    refine(write_any w.heap.size w.heap.size done S _ HB1.out (by omega) aeG).mono ?_;rintro e' w2 ⟨rfl,hB2,k2⟩
    have HB2:=Lib.hid hB2
    have hb2:Hid (Below w.heap.size w w2):=Lib.hid (hb1.out.trans k2)
    clear hB2 k2 HB1 hb1
    go_wp2_with fail
    exact⟨⟨k+1,by omega,by go_num,HN1.out,by show KQ _ _ _ _;rw[HS2.out];exact HB2.out,hb2.out⟩,by simp[intOf];omega⟩
   ·have h0b:(x==0)=false:=beq_eq_false_iff_ne.mpr h0
    by_cases h1:Oa x=0
    ·have HN1:=Lib.hid (HNX.out (by simp[lu,h1]))
     rw[h1]at HA
     clear HNX HBD
     go_wp2_with fail
     refine(HA.out _).mono ?_;rintro e ww ⟨rfl,rfl⟩
     go_wp2_with fail
     refine(HP.out _).mono ?_;rintro e' w1 ⟨rfl,k1⟩
     have HB1:Hid (KQ w.heap.size w.heap.size done w1):=Lib.hid (hB.out.tr k1)
     have hb1:Hid (Below w.heap.size w w1):=Lib.hid (by have:=hb.out;exact bm)
     have aeG:=hb1.out.size
     clear k1 hB hb HP
     go_wp2_with fail
     refine(write_any w.heap.size w.heap.size done S _ HB1.out (by omega) aeG).mono ?_;rintro e' w2 ⟨rfl,hB2,k2⟩
     have HB2:=Lib.hid hB2
     have hb2:Hid (Below w.heap.size w w2):=Lib.hid (hb1.out.trans k2)
     clear hB2 k2 HB1 hb1
     go_wp2_with fail
     exact⟨⟨k+1,by omega,by go_num,HN1.out,by show KQ _ _ _ _;rw[HS2.out];exact HB2.out,hb2.out⟩,by simp[intOf];omega⟩
    ·have h1b:(Oa x==0)=false:=beq_eq_false_iff_ne.mpr h1
     have HR3:=Lib.hid (HBD.out (by simp[lu,h0,h1]))
     clear HNX HBD
     generalize Oa x=z at*
     go_wp2_with fail
     refine(HA.out _).mono ?_;rintro e ww ⟨rfl,rfl⟩
     go_wp2_with fail
     go_ret2
     exact⟨by rw[HR3.out];rfl,hb.out⟩
  ·obtain rfl:k=n:=by omega
   have hxk:xs.take k=xs:=List.take_of_length_le (by have:=HN.out;omega)
   rw[hxk]at hB
   have HR2:Hid (R=(⟨(iy xs).toArray⟩,0)):=by
    show _=_
    rw[HR.out,if_pos]
    rw[List.all_eq_true]
    intro x hx
    obtain⟨m,hm,rfl⟩:=List.mem_iff_getElem.1 hx
    have h3:=hok.out m (by have:=HN.out;omega)
    have h4:xs.getD m 0=xs[m]:=by simp[List.getD,hm]
    rw[h4]at h3
    exact h3
   go_wp2_with fail
   refine(OB w.heap.size w.heap.size (iy xs) _ hB.out hws).mono ?_;rintro e' w1 ⟨rfl,hB1,k1⟩
   have hb1:Hid (Below w.heap.size w w1):=Lib.hid (hb.out.trans k1)
   clear hB1 k1 hB hb
   go_wp2_with fail
   go_ret2
   exact⟨by rw[HR2.out];rfl,hb1.out⟩
end Go.Proofs.YtlncengggmgdgaaGreat.im
