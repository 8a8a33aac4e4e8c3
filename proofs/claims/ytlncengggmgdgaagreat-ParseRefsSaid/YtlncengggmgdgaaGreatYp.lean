/- ParseRefs in plain numbers. LONE=M. No conditions. -/
import Derived.Test.YtlncengggmgdgaaGreatG22
import Derived.Test.YtlncengggmgdgaaGreatG27
import Derived.Test.YtlncengggmgdgaaGreatG36
import Derived.Test.YtlncengggmgdgaaGreatG30
set_option linter.unusedVariables false
set_option linter.unusedSimpArgs false
namespace Go.Proofs.YtlncengggmgdgaaGreat.aw
open Go Go.RowKit hd
open fr (vt bM dL)
open fl (Hg)
open ps
open cw (au aC)
open im (iy zQ lu uP yT)
attribute [local irreducible] par.ah
def Aa(z:Int):Prop:=z=0\/∃a,lC a=true/\z=2*a+1
theorem Aa.in{z:Int}(h:Aa z):0<=z/\z<18446744073709551616:=by
 rcases h with rfl|⟨a,h,rfl⟩
 ·decide
 ·have:=xg h;omega
theorem Aa.ad{z:Int}(h:Aa z):lu z=true/\0<=uo z/\uo z<18446744073709551616/\(uo z=0\/lC (uo z)=true)/\(if uo z=0 then 0 else 2*uo z+1)=z:=by
 rcases h with rfl|⟨a,h,rfl⟩
 ·decide
 ·have h1:=xg h
  have e:uo (2*a+1)=a:=by unfold uo;rw[if_neg (by omega)];omega
  have e2:Oa (2*a+1)=0:=by unfold Oa;rw[if_neg (by omega),if_neg (by omega)]
  rw[e]
  exact⟨by unfold lu;rw[e2];simp,by omega,by omega,.inr h,by rw[if_neg (by omega)]⟩
theorem QI(vs:List Nat):∀(pre more:List Nat)(acc:List Int),(∀v∈vs,v<18446744073709551616)->lU (pre++(vs.flatMap bM++more)) vs.length pre.length acc=.ok (acc++vs.map λv:Nat=>(v:Int)) (pre.length+(vs.flatMap bM).length):=by
 induction vs with
 |nil=>intro pre more acc _;simp[lU]
 |cons v vs ih=>
  intro pre more acc h
  have h1:=Hg (vs.flatMap bM++more) v 0 0 (by decide) (by have:=h v (by simp);omega) (λh=>absurd h (Nat.lt_irrefl _))
  rw[List.flatMap_cons,List.length_cons,lU,List.drop_left,List.append_assoc,h1]
  dsimp only
  have h2:=ih (pre++bM v) more (acc++[((v:Nat):Int)]) (λx hx=>h x (by simp[hx]))
  rw[List.append_assoc,List.length_append]at h2
  simp only[Nat.zero_add,Nat.pow_zero,Nat.mul_one]
  rw[h2]
  simp[Nat.add_assoc]
theorem YA(zs:List Int)(h:∀z∈zs,Aa z):jm (zs.map uo)=some zs:=by
 induction zs with
 |nil=>rfl
 |cons z zs ih=>
  obtain⟨h1,h2,h3,h4,h5⟩:=(h z (by simp)).ad
  rw[List.map_cons,jm,if_pos h4,ih λy hy=>h y (by simp[hy])]
  simp[h5]
theorem abD(zs:List Int)(h:∀z∈zs,Aa z)(pre more:List Nat):iG (pre++((zs.flatMap λz=>bM (uo z).toNat)++more)) zs.length pre.length=.ok zs (pre.length+(zs.flatMap λz=>bM (uo z).toNat).length):=by
 have h1:=QI (zs.map λz=>(uo z).toNat) pre more [] (λv hv=>by
  obtain⟨z,hz,rfl⟩:=List.mem_map.1 hv
  have:=(h z hz).ad
  omega)
 rw[List.flatMap_map,List.length_map]at h1
 simp only[List.nil_append,List.map_map]at h1
 unfold iG
 rw[h1]
 dsimp only
 rw[show zs.map ((λv:Nat=>(v:Int))∘λz=>(uo z).toNat)=zs.map uo from List.map_congr_left λz hz=>by
  have:=(h z hz).ad
  show(((uo z).toNat:Nat):Int)=uo z
  omega,YA zs h]
theorem YB(zs:List Int)(h:∀z∈zs,Aa z)(more:List Nat):iG ((zs.flatMap λz=>bM (uo z).toNat)++more) zs.length 0=.ok zs (zs.flatMap λz=>bM (uo z).toNat).length:=by
 have:=abD zs h [] more
 simpa using this
theorem DU(zs:List Int):au ⟨(iy zs).toArray⟩=zs.flatMap λz=>bM (uo z).toNat:=by
 unfold au iy uP
 simp only[List.toList_toArray,List.map_flatMap]
 congr 1
 funext z
 exact fr.iQ (fl.By.bM _)
theorem OV(v:Nat)(h1:9223372036854775808<=v)(h2:v<18446744073709551616):iG (bM v) 1 0=.er 3:=by
 have h:=QI [v] [] [] [] (λx hx=>by simp at hx;omega)
 simp only[List.flatMap_cons,List.flatMap_nil,List.append_nil,List.nil_append,List.length_cons,List.length_nil,Nat.zero_add,List.map_cons,List.map_nil]at h
 unfold iG
 rw[h]
 dsimp only
 have:jm [(v:Int)]=none:=by
  unfold jm
  rw[if_neg]
  rintro(h|h)
  ·omega
  ·have:=xg h;omega
 rw[this]
def QJ(l:List Int):List Int:=(l.take 20).map λx=>uj (x/2)
theorem aeH(a:Int):Aa (uj a):=by
 unfold uj
 split
 ·rename_i h;exact .inr ⟨a,h,rfl⟩
 ·exact .inl rfl
theorem ahl(l:List Int):∀z∈QJ l,Aa z:=λz hz=>by
 obtain⟨x,-,rfl⟩:=List.mem_map.1 hz
 exact aeH _
theorem abE(l:List Int):(QJ l).length=min 20 l.length:=by simp[QJ]
theorem YC(l:List Int){k:Nat}(h1:k<l.length)(h2:k<20):(QJ l).take (k+1)=(QJ l).take k++[uj (l.getD k 0/2)]:=by
 have:(QJ l)[k]? =some (uj (l.getD k 0/2)):=by simp[QJ,List.getD,h1,h2,List.getElem?_take]
 rw[List.take_add_one,this]
 rfl
theorem Ux(zs:List Int)(h:∀z∈zs,Aa z)(k:Nat)(hk:k<=zs.length):∃q,iG (au ⟨(iy zs).toArray⟩) k 0=.ok (zs.take k) q/\(k=zs.length->q=(⟨(iy zs).toArray⟩:ByteArray).size):=by
 have h1:=YB (zs.take k) (λz hz=>h z (List.mem_of_mem_take hz)) ((zs.drop k).flatMap λz=>bM (uo z).toNat)
 rw[<-List.flatMap_append,List.take_append_drop,List.length_take,Nat.min_eq_left hk,<-DU]at h1
 refine⟨_,h1,λe=> ?_⟩
 rw[e,List.take_length,<-DU]
 exact aC _
theorem YD(zs:List Int)(h:∀z∈zs,Aa z):zQ zs=(⟨(iy zs).toArray⟩,0):=by
 unfold zQ
 rw[if_pos (List.all_eq_true.2 λz hz=>(h z hz).ad.1)]
theorem OW(zs:List Int)(h:∀z∈zs,Aa z):(⟨(iy zs).toArray⟩:ByteArray).size<=10*zs.length:=by
 have:=yT zs (λz hz=>(h z hz).in)
 show(iy zs).toArray.size<=_
 simpa using this
theorem YE(w:Int)(h1:0<=w)(h2:w<18446744073709551616):∃v:Nat,bits .or .u64 w 9223372036854775808=(v:Int)/\9223372036854775808<=v/\v<18446744073709551616:=by
 obtain⟨k,rfl⟩:=Int.eq_ofNat_of_zero_le h1
 refine⟨k|||9223372036854775808,u64_or_nat k 9223372036854775808 (by omega) (by decide),Nat.right_le_or,Nat.or_lt_two_pow (n:=64) (by omega) (by decide)⟩
end Go.Proofs.YtlncengggmgdgaaGreat.aw
