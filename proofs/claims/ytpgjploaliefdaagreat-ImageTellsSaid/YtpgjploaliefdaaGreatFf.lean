/- varint.Row, varint.Put. LONE=1. No conditions. -/
import Derived.Test.YtpgjploaliefdaaGreatG17
import Derived.WalkMore
import Derived.Deep.RegionHeld3
namespace Go.Proofs.YtpgjploaliefdaaGreat.fr
open Go.RowKit cm cw
set_option linter.unusedVariables false
set_option linter.unusedSimpArgs false
def aW(v:Nat):List Nat:=if v<128 then [v]else(v%128+128)::aW (v/128)
termination_by v
decreasing_by omega
theorem iJ{v:Nat}(h:v<128):aW v=[v]:=by rw[aW,if_pos h]
theorem ru{v:Nat}(h:¬v<128):aW v=(v%128+128)::aW (v/128):=by rw[aW,if_neg h]
theorem oh:∀(k v:Nat),v<128^(k+1)->(aW v).length<=k+1
 |0,v,h=>by rw[iJ (by simpa using h)];simp
 |k+1,v,h=>by
  by_cases hv:v<128
  ·rw[iJ hv];simp
  ·rw[ru hv]
   have:=oh k (v/128) (by rw[Nat.pow_succ]at h;omega)
   simp
   omega
theorem lZ(v:Nat):0<(aW v).length:=by
 by_cases hv:v<128
 ·rw[iJ hv];simp
 ·rw[ru hv];simp
theorem aX{v:Nat}(h:v<18446744073709551616):(aW v).length<=10:=oh 9 v (Nat.lt_of_lt_of_le h (by decide))
def bQ(xs:List Nat):List Nat:=xs.flatMap aW
theorem Bz(xs:List Nat)(k:Nat)(h:k<xs.length):bQ (xs.take (k+1))=bQ (xs.take k)++aW (xs.getD k 0):=by
 unfold bQ
 rw[List.take_add_one,List.flatMap_append]
 simp[List.getD,h]
set_option maxRecDepth 100000 in
set_option maxHeartbeats 4000000 in
theorem pq(b cap:Nat)(xs:List Nat)(w:World)(hc:∀i,i<xs.length->w.cell? ⟨b,i,none⟩=some (.int .u64 ((xs.getD i 0:Nat):Int)))(hx:∀i,xs.getD i 0<18446744073709551616)(hl:xs.length<1000000)(h0:0<xs.length):
  Calls Tryz.prog 46 #[.slice (some ⟨b,0,none⟩) xs.length cap] w λe w'=>e=.returned (.string (aG (bQ xs)))/\Below w.heap.size w w':=by
 go_enter Tryz.func46,Tryz.ntmps46
 go_wp2_with fail
 go_loopw [3,8] (λbv i wr=>∃k:Nat,k<=xs.length/\i=.int .i64 k/\Hid (OwnB wr w.heap.size bv (bQ (xs.take k)))/\Hid ((bQ (xs.take k)).length<=10*k)/\(0<k->Hid (0<(bQ (xs.take k)).length))/\Hid (Below w.heap.size w wr)) (λ_ i _=>xs.length-(intOf i).toNat)
 case atStart=>exact⟨0,Nat.zero_le _,rfl,Lib.hid (OwnB.nil _ _),Lib.hid (by simp[bQ]),λh=>absurd h (by omega),Lib.hid (Below.refl _ _)⟩
 case round=>
  obtain⟨k,hk,rfl,ho,hn,hp,hb⟩:=hrel
  by_cases hlk:k<xs.length
  ·have hcell:=ah hb.out (hc k hlk)
   have hxk:=hx k
   have HS:=Lib.hid (Bz xs k hlk)
   generalize xs.getD k 0=X at*
   have H10:=Lib.hid (aX hxk)
   have HPP:=Lib.hid (lZ X)
   generalize bQ (xs.take k)=done at*
   go_wp2_with fail
   go_loopw [3,5] (λbv y ww=>∃(v:Nat)(more:List Nat),v<18446744073709551616/\y=.int .u64 (v:Int)/\Hid (OwnB ww w.heap.size bv (done++more))/\Hid (aW X=more++aW v)/\Hid (Below w.heap.size w ww)) (λ_ y _=>(intOf y).toNat)
   case atStart=>exact⟨X,[],hxk,rfl,Lib.hid (by simpa using ho.out),Lib.hid (by simp),hb⟩
   case round=>
    obtain⟨v,more,hv,rfl,ho2,hm,hb2⟩:=hrel
    have HL:Hid ((done++more).length+1<1000000000000):=Lib.hid (by
     have h1:=hn.out
     have h2:=H10.out
     have h3:=congrArg List.length hm.out
     simp at h3⊢
     omega)
    by_cases hlv:v<128
    ·have LD:Hid (aW X=more++[v]):=Lib.hid (by rw[hm.out,iJ hlv])
     go_wp2_with (at_builtin;refine zZ _ rfl _ _ rfl w.heap.size _ (done++more) v _ 1 rfl rfl ?c0 ?c1 HL.out ?c3 ?c4)
     case c0=>exact ho2.out.tr (by exact bm)
     case c1=>simp[qB]
     case c3=>have:=hb2.out.size;simp;omega
     case c4=>
     intro v' w2 ho3 hg hat
     have H2:Hid (OwnB w2 w.heap.size v' (done++aW X)):=Lib.hid (by rw[LD.out];simpa using ho3)
     have H3:Hid (Below w.heap.size w w2):=Lib.hid (grown_below hg (jU hb2.out (Nat.le_refl _) _) (Nat.le_refl _) ho2.out.block)
     clear ho3 hg hat
     go_wp2_with fail
     refine⟨⟨k+1,by omega,by go_num,Lib.hid (by rw[HS.out];exact H2.out),Lib.hid ?_,λ_=>Lib.hid ?_,H3⟩,by simp[intOf];omega⟩
     ·have h1:=hn.out
      have h2:=H10.out
      rw[HS.out]
      simp
      omega
     ·have h2:=HPP.out
      rw[HS.out]
      simp
      omega
    ·have LD:Hid (aW X=more++[v%128+128]++aW (v/128)):=Lib.hid (by rw[hm.out,ru hlv];simp)
     generalize hY:v%128+128=Y at LD
     have HY:=Lib.hid hY
     clear hY
     go_wp2_with (at_builtin;refine zZ _ rfl _ _ rfl w.heap.size _ (done++more) Y wr.heap.size 1 rfl rfl ?d0 ?d1 HL.out ?d3 ?d4)
     case d0=>exact ho2.out.tr (by exact bm)
     case d1=>have:=HY.out;simp[qB];omega
     case d3=>have:=hb2.out.size;simp;omega
     case d4=>
     intro v' w2 ho3 hg hat
     have H2:Hid (OwnB w2 w.heap.size v' (done++(more++[Y]))):=Lib.hid (by simpa using ho3)
     have H3:Hid (Below w.heap.size w w2):=Lib.hid (grown_below hg (jU hb2.out (Nat.le_refl _) _) (Nat.le_refl _) ho2.out.block)
     clear ho3 hg hat
     go_wp2_with fail
     exact⟨⟨v/128,more++[Y],by omega,by first|rfl|go_num,H2,LD,H3⟩,by simp[intOf];omega⟩
  ·obtain rfl:k=xs.length:=by omega
   rw[List.take_length]at ho hp
   have hs:=ho.out.str (hp (by omega)).out
   go_wp2_with fail
   go_ret
   exact⟨rfl,hb.out⟩
theorem put_any(v:Nat)(w:World)(hv:v<18446744073709551616):
  Calls Tryz.prog 45 #[.int .u64 v] w λe w'=>e=.returned (.string (aG (aW v)))/\Below w.heap.size w w':=by
 go_enter Tryz.func45,Tryz.ntmps45
 go_wp2_with fail
 refine(pq w.heap.size 1 [v] _ (λi hi=> ?_) (λi=> ?_) (by simp) (by simp)).mono ?_
 ·have:i=0:=by simp at hi;exact hi
  subst this
  simp
 ·rcases i with _|i
  ·exact hv
  ·simp
 rintro e w2 ⟨rfl,hb⟩
 have e1:bQ [v]=aW v:=by simp[bQ]
 rw[e1]
 have hB:Below w.heap.size w w2:=by exact bm
 clear hb
 go_wp2_with fail
 go_ret
 exact⟨rfl,hB⟩
end Go.Proofs.YtpgjploaliefdaaGreat.fr
