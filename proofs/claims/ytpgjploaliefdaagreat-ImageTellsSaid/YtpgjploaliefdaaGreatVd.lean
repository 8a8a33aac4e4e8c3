/- The document's layers 1, 2 and 18: Row, Put, Refs. No conditions. -/
import Derived.Test.YtpgjploaliefdaaGreatG19
import Derived.Test.YtpgjploaliefdaaGreatG21
namespace Go.Proofs.YtpgjploaliefdaaGreat.im
open Go Go.RowKit cm cw ga gr hp ob hd cp ck
open fr (aG aW bQ sW leB aF aX iI gI)
set_option linter.unusedVariables false
set_option linter.unusedSimpArgs false
set_option maxRecDepth 100000
set_option maxHeartbeats 4000000
theorem Ry{xs:List Int}{k:Nat}(h:k<xs.length):xs.take (k+1)=xs.take k++[xs.getD k 0]:=by
 rw[List.take_succ_eq_append_getElem h]
 simp[List.getD,h]
theorem Bz(l:List Nat)(x:Nat):bQ (l++[x])=bQ l++aW x:=by unfold bQ;simp
def CO(xs:List Int):ByteArray:=aG (bQ (xs.map Int.toNat))
theorem Rz{xs:List Int}{k:Nat}(h:k<xs.length):CO (xs.take (k+1))=CO (xs.take k)++aG (aW (xs.getD k 0).toNat):=by
 unfold CO
 rw[Ry h,List.map_append,List.map_cons,List.map_nil,Bz,sW]
def uJ(xs:List Int):ByteArray:=aG (eP xs)
theorem Kt{xs:List Int}{k:Nat}(h:k<xs.length):uJ (xs.take (k+1))=uJ (xs.take k)++aG (leB 8 (xs.getD k 0).toNat):=by
 unfold uJ
 rw[Cj _ _ h,sW]
theorem Gt(l:List UInt8)(s:ByteArray):(⟨l.toArray⟩:ByteArray)++s=⟨(l++s.data.toList).toArray⟩:=by
 apply ByteArray.ext
 apply Array.toList_inj.1
 simp
theorem Nu{xs:List Int}{k:Nat}(h:k<xs.length):(⟨(bn (xs.take (k+1))).toArray⟩:ByteArray)=⟨(bn (xs.take k)).toArray⟩++aG (aW (gB (xs.getD k 0)).toNat):=by
 rw[ED _ _ h,Gt]
 rfl
theorem VJ{l:List Nat}(h:∀x∈l,x<18446744073709551616):(bQ l).length<=10*l.length:=by
 induction l with
 |nil=>simp[bQ]
 |cons a l ih=>
  have h1:=aX (h a (by simp))
  have h2:=ih λx hx=>h x (List.mem_cons_of_mem _ hx)
  unfold bQ at h2⊢
  rw[List.flatMap_cons,List.length_append,List.length_cons]
  omega
theorem RF{xs:List Int}(hz:Small xs)(hl:xs.length<1000000)(k:Nat):(CO (xs.take k)).size<=10000000:=by
 unfold CO
 rw[aF]
 have:=VJ (l:=(xs.take k).map Int.toNat) λx hx=>by
  obtain⟨y,hy,rfl⟩:=List.mem_map.1 hx
  have:=jW hz y (List.mem_of_mem_take hy)
  omega
 rw[List.length_map,List.length_take]at this
 omega
theorem Ku{xs:List Int}(hz:Small xs)(hl:xs.length<1000000)(k:Nat):(uJ (xs.take k)).size<=10000000:=by
 unfold uJ
 rw[aF,nG,List.length_take]
 omega
theorem Nv{xs:List Int}(hz:Small xs)(hl:xs.length<1000000)(k:Nat):(⟨(bn (xs.take k)).toArray⟩:ByteArray).size<=10000000:=by
 have:=nH (xs.take k) λx hx=>jW hz x (List.mem_of_mem_take hx)
 rw[List.length_take]at this
 show(bn (xs.take k)).toArray.size<=_
 rw[List.size_toArray]
 omega
theorem EF(u:Value)(xs:List Int)(w:World)(hu:aN w u xs)(hz:Small xs)(hl:xs.length<1000000):
  Calls Tryz.prog 50 #[u] w λe w'=>e=.returned (.string (CO xs))/\Below w.heap.size w w':=by
 obtain⟨ad,b,off,cap,rfl,⟨h1,h2⟩,h3,⟨h4,h4'⟩,h5,h6⟩:=hu
 have HZ:=Lib.hid hz
 have H1:=Lib.hid h1
 have H6:=Lib.hid h6
 have HS:=Lib.hid λk(hk:k<xs.length)=>Rz (xs:=xs) hk
 have VK:=Lib.hid λk=>RF (xs:=xs) hz hl k
 generalize hA:(λk=>CO (xs.take k))=A at*
 have eA:∀k,CO (xs.take k)=A k:=λk=>by rw[<-hA]
 have e0:A 0=⟨#[]⟩:=by rw[<-hA];simp only[List.take_zero];rfl
 have eN:CO xs=A xs.length:=by rw[<-hA];simp
 simp only[eA]at HS VK
 rw[eN]
 have E0:=Lib.hid e0
 clear eA e0 eN hA hz h1 h2 h6
 generalize hn:xs.length=n at*
 have HN:=Lib.hid hn
 clear hn
 go_enter Tryz.func50,Tryz.ntmps50
 go_wp2_with fail
 go_loopw [4,3] (λi s wr=>∃k:Nat,k<=n/\i=.int .i64 k/\s=.string (A k)/\Below w.heap.size w wr) (λi _ _=>n-(intOf i).toNat)
 case atStart=>exact⟨0,Nat.zero_le _,rfl,by rw[E0.out],Below.refl _ _⟩
 case round=>
  obtain⟨k,hk,rfl,rfl,bel⟩:=hrel
  by_cases hlt:k<n
  ·obtain rfl:=H1.out (by omega)
   have hx:=(H6.out.block (bel.block b h5)).at k hlt
   have rU:=HZ.out k
   have hs:=HS.out k hlt
   generalize xs.getD k 0=Z at*
   obtain⟨Y,rfl⟩:=Int.eq_ofNat_of_zero_le rU.1
   have hSB:(aG (aW Y)).size<=10:=by
    first
     |(rw[aF];exact aX (by omega))
     |(rw[aF,iI];decide)
   have hAB:=VK.out k
   have HC:=Lib.hid (λW=>fr.wJ Y W (by omega))
   have Qs:Hid (A (k+1)=A k++aG (aW Y)):=Lib.hid hs
   clear hs
   generalize aG (aW Y)=SB at*
   generalize A k=AK at*
   have Vq:=gI AK SB (by omega)
   go_wp2_with fail
   refine(HC.out _).mono ?_;rintro e w2 ⟨rfl,k2⟩
   go_wp2_with fail
   exact⟨⟨k+1,by omega,by go_num,by rw[Qs.out],bm⟩,by simp[intOf];omega⟩
  ·obtain rfl:k=n:=by omega
   go_wp2_with fail
   go_ret
   exact⟨rfl,bm⟩
theorem RI(u:Value)(xs:List Int)(w:World)(hu:aN w u xs)(hz:Small xs)(hl:xs.length<1000000):
  Calls Tryz.prog 51 #[u] w λe w'=>e=.returned (.string (uJ xs))/\Below w.heap.size w w':=by
 obtain⟨ad,b,off,cap,rfl,⟨h1,h2⟩,h3,⟨h4,h4'⟩,h5,h6⟩:=hu
 have HZ:=Lib.hid hz
 have H1:=Lib.hid h1
 have H6:=Lib.hid h6
 have HS:=Lib.hid λk(hk:k<xs.length)=>Kt (xs:=xs) hk
 have VK:=Lib.hid λk=>Ku (xs:=xs) hz hl k
 generalize hA:(λk=>uJ (xs.take k))=A at*
 have eA:∀k,uJ (xs.take k)=A k:=λk=>by rw[<-hA]
 have e0:A 0=⟨#[]⟩:=by rw[<-hA];simp only[List.take_zero];rfl
 have eN:uJ xs=A xs.length:=by rw[<-hA];simp
 simp only[eA]at HS VK
 rw[eN]
 have E0:=Lib.hid e0
 clear eA e0 eN hA hz h1 h2 h6
 generalize hn:xs.length=n at*
 have HN:=Lib.hid hn
 clear hn
 go_enter Tryz.func51,Tryz.ntmps51
 go_wp2_with fail
 go_loopw [4,3] (λi s wr=>∃k:Nat,k<=n/\i=.int .i64 k/\s=.string (A k)/\Below w.heap.size w wr) (λi _ _=>n-(intOf i).toNat)
 case atStart=>exact⟨0,Nat.zero_le _,rfl,by rw[E0.out],Below.refl _ _⟩
 case round=>
  obtain⟨k,hk,rfl,rfl,bel⟩:=hrel
  by_cases hlt:k<n
  ·obtain rfl:=H1.out (by omega)
   have hx:=(H6.out.block (bel.block b h5)).at k hlt
   have rU:=HZ.out k
   have hs:=HS.out k hlt
   generalize xs.getD k 0=Z at*
   obtain⟨Y,rfl⟩:=Int.eq_ofNat_of_zero_le rU.1
   have hSB:(aG (leB 8 Y)).size<=10:=by
    first
     |(rw[aF];exact aX (by omega))
     |(rw[aF,iI];decide)
   have hAB:=VK.out k
   have HC:=Lib.hid (λW=>fr.EC Y 8 W (by omega) (by omega) (by omega))
   have Qs:Hid (A (k+1)=A k++aG (leB 8 Y)):=Lib.hid hs
   clear hs
   generalize aG (leB 8 Y)=SB at*
   generalize A k=AK at*
   have Vq:=gI AK SB (by omega)
   go_wp2_with fail
   refine(HC.out _).mono ?_;rintro e w2 ⟨rfl,k2⟩
   go_wp2_with fail
   exact⟨⟨k+1,by omega,by go_num,by rw[Qs.out],bm⟩,by simp[intOf];omega⟩
  ·obtain rfl:k=n:=by omega
   go_wp2_with fail
   go_ret
   exact⟨rfl,bm⟩
theorem yV(u:Value)(xs:List Int)(w:World)(hu:aN w u xs)(hz:Small xs)(hl:xs.length<1000000):
  Calls Tryz.prog 18 #[u] w λe w'=>e=.returned (.tuple #[.string (jO xs).1,.int .i64 (jO xs).2])/\Below w.heap.size w w':=by
 obtain⟨ad,b,off,cap,rfl,⟨h1,h2⟩,h3,⟨h4,h4'⟩,h5,h6⟩:=hu
 have HZ:=Lib.hid hz
 have H1:=Lib.hid h1
 have H6:=Lib.hid h6
 have HS:=Lib.hid λk(hk:k<xs.length)=>Nu (xs:=xs) hk
 have VK:=Lib.hid λk=>Nv (xs:=xs) hz hl k
 have HR:Hid (jO xs=if xs.all eU then(⟨(bn xs).toArray⟩,0)else(⟨#[]⟩,3)):=rfl
 have Ld:Hid (∀k,k<xs.length->eU (xs.getD k 0)=false->jO xs=(⟨#[]⟩,3)):=Lib.hid λk hk e=>by
  rw[HR.out,if_neg]
  intro e2
  have h3:=List.all_eq_true.1 e2 xs[k] (List.getElem_mem hk)
  have h4:xs.getD k 0=xs[k]:=by simp[List.getD,hk]
  rw[h4,h3]at e
  cases e
 have HGD:Hid ((∀j,j<xs.length->eU (xs.getD j 0)=true)->jO xs=(⟨(bn xs).toArray⟩,0)):=Lib.hid λk=>by
  rw[HR.out,if_pos]
  rw[List.all_eq_true]
  intro x hx
  obtain⟨j,hj,rfl⟩:=List.getElem_of_mem hx
  have:=k j hj
  simpa [List.getD,hj]using this
 have HAD:Hid (∀W z,0<=z/\z<18446744073709551616->Calls Tryz.prog 53 #[.int .u64 z] W λe w'=>e=.returned (.tuple #[.int .u64 (gB z),.int .i64 (mD z)])/\W=w'):=Lib.hid λW z hz=>iT z W hz.1 hz.2
 generalize hA:(λk=>(⟨(bn (xs.take k)).toArray⟩:ByteArray))=A at*
 have eA:∀k,(⟨(bn (xs.take k)).toArray⟩:ByteArray)=A k:=λk=>by rw[<-hA]
 have e0:A 0=⟨#[]⟩:=by rw[<-hA];simp only[List.take_zero];rfl
 have eN:(⟨(bn xs).toArray⟩:ByteArray)=A xs.length:=by rw[<-hA];simp
 simp only[eA]at HS VK
 rw[eN]at HGD
 have E0:=Lib.hid e0
 generalize jO xs=R at*
 clear eA e0 eN hA hz h1 h2 h6 HR
 generalize hn:xs.length=n at*
 have HN:=Lib.hid hn
 clear hn
 go_enter Tryz.func18,Tryz.ntmps18
 go_wp2_with fail
 go_loopw [5,4] (λi s wr=>∃k:Nat,k<=n/\i=.int .i64 k/\s=.string (A k)/\Hid (∀j,j<k->eU (xs.getD j 0)=true)/\Below w.heap.size w wr) (λi _ _=>n-(intOf i).toNat)
 case atStart=>exact⟨0,Nat.zero_le _,rfl,by rw[E0.out],Lib.hid (λj hj=>by omega),Below.refl _ _⟩
 case round=>
  obtain⟨k,hk,rfl,rfl,hall,bel⟩:=hrel
  by_cases hlt:k<n
  ·obtain rfl:=H1.out (by omega)
   have hx:=(H6.out.block (bel.block b h5)).at k hlt
   have rU:=HZ.out k
   have Qs:=Lib.hid (HS.out k hlt)
   have HBk:=Lib.hid (Ld.out k hlt)
   have HT:Hid (eU (xs.getD k 0)=true->∀j,j<k+1->eU (xs.getD j 0)=true):=Lib.hid λe j hj=>by
    rcases Nat.lt_or_ge j k with h|h
    ·exact hall.out j h
    ·obtain rfl:j=k:=by omega
     exact e
   generalize xs.getD k 0=Z at*
   have Qv:=Lib.hid λW=>HAD.out W Z rU
   have hav:=Nr rU
   have hOK:Hid (eU Z=(decide (Z=0)||decide (mD Z=0))):=rfl
   obtain⟨Y,hY⟩:=Int.eq_ofNat_of_zero_le hav.1
   rw[hY]at Qv Qs hav
   have HPY:Hid (∀W,Calls Tryz.prog 36 #[.int .u64 Y] W λe w'=>e=.returned (.string (aG (aW Y)))/\Below W.heap.size W w'):=Lib.hid λW=>fr.wJ Y W (by omega)
   have adJ:Hid (A (k+1)=A k++aG (aW Y)):=Lib.hid Qs.out
   have hSB:(aG (aW Y)).size<=10:=by rw[aF];exact aX (by omega)
   have hAB:=VK.out k
   clear hY Qs hav
   generalize aG (aW Y)=SB at*
   generalize A k=AK at*
   have Vq:=gI AK SB (by omega)
   generalize hRO:eU Z=RO at*
   generalize mD Z=E at*
   have HRO:=Lib.hid hRO
   clear hRO
   by_cases hZ0:Z=0
   ·have HV:=Lib.hid (HT.out (by rw[hOK.out,decide_eq_true hZ0];rfl))
    subst hZ0
    go_wp2_with fail
    refine(Qv.out _).mono ?_;rintro e w2 ⟨rfl,rfl⟩
    go_wp2_with fail
    refine(HPY.out _).mono ?_;rintro e w3 ⟨rfl,k3⟩
    go_wp2_with fail
    exact⟨⟨k+1,by omega,by go_num,by rw[adJ.out],HV,bm⟩,by simp[intOf];omega⟩
   ·by_cases hE:E=0
    ·have HV:=Lib.hid (HT.out (by rw[hOK.out,decide_eq_true hE,Bool.or_true]))
     subst hE
     go_wp2_with fail
     refine(Qv.out _).mono ?_;rintro e w2 ⟨rfl,rfl⟩
     go_wp2_with fail
     refine(HPY.out _).mono ?_;rintro e w3 ⟨rfl,k3⟩
     go_wp2_with fail
     exact⟨⟨k+1,by omega,by go_num,by rw[adJ.out],HV,bm⟩,by simp[intOf];omega⟩
    ·have HV:=Lib.hid (HBk.out (by rw[hOK.out,decide_eq_false hZ0,decide_eq_false hE];rfl))
     have hEb:(E !=0)=true:=by simp[hE]
     have hZb:(Z !=0)=true:=by simp[hZ0]
     go_wp2_with fail
     refine(Qv.out _).mono ?_;rintro e w2 ⟨rfl,rfl⟩
     go_wp2_with fail
     go_ret2
     exact⟨by rw[HV.out];rfl,bm⟩
  ·obtain rfl:k=n:=by omega
   have HV:=Lib.hid (HGD.out hall.out)
   go_wp2_with fail
   go_ret2
   exact⟨by rw[HV.out];rfl,bm⟩
end Go.Proofs.YtpgjploaliefdaaGreat.im
