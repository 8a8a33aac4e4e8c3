/- varint.Take. LONE=1. No conditions. -/
import Derived.Test.YtlncengggmgdgaaGreatG18
import Derived.Test.YtlncengggmgdgaaGreatG20
import Derived.WalkMore
import Derived.OwnWalk
set_option linter.unusedVariables false
set_option linter.unusedSimpArgs false
set_option maxRecDepth 100000
namespace Go.Proofs.YtlncengggmgdgaaGreat.fr
open Go.RowKit cm cw
variable {HC : Code}
attribute [local irreducible] par.ah
inductive VT where
 |ok (v n:Nat)
 |short
 |form
def vt(n v:Nat):List Nat->VT
 |[]=>.short
 |b::t=>if(n=9/\2<=b)\/(0<n/\b=0)then .form else if b<128 then .ok (v+b*128^n) (n+1)else vt (n+1) (v+(b-128)*128^n) t
def jX(at_:Nat):VT->Value
 | .ok v n=>.tuple #[.int .u64 (v:Int),.int .i64 ((at_+n:Nat):Int),.int .i64 0]
 | .short=>.tuple #[.int .u64 0,.int .i64 0,.int .i64 2]
 | .form=>.tuple #[.int .u64 0,.int .i64 0,.int .i64 3]
theorem nU{s:ByteArray}{p:Nat}(h:p<s.size):(au s).drop p=s[p].toNat::(au s).drop (p+1):=by
 have hl:p<(au s).length:=by rw[aC];exact h
 rw[List.drop_eq_getElem_cons hl]
 congr 1
 simp[au]
 rfl
theorem Xy{v d k:Nat}(hk:k<=9)(hv:v<128^k)(hd:d*128^k<18446744073709551616):bits .or .u64 (v:Int) (IntKind.u64.wrap ((d:Int)*2^(7*k)))=((v+d*128^k:Nat):Int):=by
 have e:(128:Nat)^k=2^(7*k):=by rw[Nat.pow_mul]
 have e2:(d:Int)*2^(7*k)=((d*128^k:Nat):Int):=by rw[e];push_cast;rfl
 rw[e2,mZ _ (by omega)]
 rw[e]at hv hd⊢
 have hv2:v<18446744073709551616:=Nat.lt_of_lt_of_le hv (Nat.le_trans (Nat.pow_le_pow_right (by omega) (show 7*k<=63 by omega)) (by decide))
 rw[u64_or_nat v _ hv2 hd]
 have:=Nat.two_pow_add_eq_or_of_lt hv d
 rw[Nat.mul_comm]at this
 rw[Nat.or_comm,<-this,Nat.add_comm]
set_option maxHeartbeats 4000000 in
theorem take_any(s:ByteArray)(at_:Nat)(w:World)(hs:s.size<1000000000000)(ha:at_<=s.size):
  Calls (par.ah HC) 107 #[.string s,.int .i64 at_] w λe w'=>e=.returned (jX at_ (vt 0 0 ((au s).drop at_)))/\w=w':=by
 have ia:¬(at_:Int)<0:=by omega
 go_enter (par.ZK (H:=HC)),Tryz.ntmps107
 go_step
 go_wp2_with fail
 apply wp_scope_straight
 go_step
 go_wp2_with fail
 apply wp_label
 go_wp2_with fail
 generalize hR:vt 0 0 ((au s).drop at_)=R
 have hR0:=hR
 go_loopw [4,5,7] (λy p n wr=>∃v k:Nat,k<=9/\at_+k<=s.size/\v<128^k/\y=.int .u64 v/\p=.int .i64 ((at_+k:Nat):Int)/\n=.int .i64 k/\Hid (vt k v ((au s).drop (at_+k))=R)/\wr=w) (λ_ _ n _=>10-(intOf n).toNat)
 case atStart=>exact⟨0,0,by omega,by omega,by omega,rfl,rfl,rfl,Lib.hid hR,rfl⟩
 case round=>
  obtain⟨v,k,hk,hp,hv,rfl,rfl,rfl,hr,rfl⟩:=hrel
  clear hR
  generalize hq:at_+k=p at*
  by_cases hlp:p<s.size
  ·have hd:=nU hlp
   have hb:s[p].toNat<256:=s[p].toNat_lt
   generalize hB:s[p].toNat=b at*
   have i1:(p:Int)<(s.size:Int):=by omega
   have i2:¬(s.size:Int)<=(p:Int):=by omega
   have HV:R=if(k=9/\2<=b)\/(0<k/\b=0)then .form else if b<128 then .ok (v+b*128^k) (k+1)else vt (k+1) (v+(b-128)*128^k) ((au s).drop (p+1)):=by
    rw[<-hr.out,hd,vt]
   have HQ:Hid (R=vt 0 0 ((au s).drop at_)):=Lib.hid hR0.symm
   clear hd hr
   by_cases hF:(k=9/\2<=b)\/(0<k/\b=0)
   ·rw[if_pos hF]at HV
    have HV:=Lib.hid HV
    go_wp2_with fail
    all_goals (try simp only[beq_iff_eq,beq_eq_false_iff_ne,ne_eq]at*)
    all_goals first
     |(exfalso;omega)
     |(((try simp only[Exit.inBlock,Exit.then,Exit.noGoto_ret,Exit.noGoto_normal,Exit.noGoto_exit]);refine bodyPost_ret (results_tmp3 rfl _ _ _) rfl ?_);rw[<-HQ.out,HV.out];exact⟨rfl,rfl⟩)
   ·rw[if_neg hF]at HV
    by_cases hb2:b<128
    ·rw[if_pos hb2]at HV
     have hmul:b*128^k<18446744073709551616:=by
      rcases Nat.lt_or_ge k 9 with h|h
      ·exact Nat.lt_of_lt_of_le (Nat.mul_lt_mul_of_lt_of_le hb2 (Nat.pow_le_pow_right (by omega) (show k<=8 by omega)) (Nat.two_pow_pos 56)) (by decide)
      ·obtain rfl:k=9:=by omega
       have:b<2:=by omega
       omega
     have HO:=Lib.hid (Xy (d:=b) hk hv hmul)
     have HO9:k=9->bits .or .u64 (v:Int) ((b:Int)*9223372036854775808)=((v+b*128^k:Nat):Int):=λh=>by
      subst h
      rw[<-HO.out,mZ _ (by omega)]
      rfl
     replace HO9:=Lib.hid HO9
     replace HV:=Lib.hid HV
     go_wp2_with fail
     all_goals (try simp only[beq_iff_eq,beq_eq_false_iff_ne,ne_eq]at*)
     all_goals first
      |(exfalso;omega)
      |(((try simp only[Exit.inBlock,Exit.then,Exit.noGoto_ret,Exit.noGoto_normal,Exit.noGoto_exit]);refine bodyPost_ret (results_tmp3 rfl _ _ _) rfl ?_);rw[<-HQ.out,HV.out];refine⟨?_,rfl⟩;show _=Ending.returned (.tuple #[.int .u64 ((v+b*128^k:Nat):Int),.int .i64 ((at_+(k+1):Nat):Int),.int .i64 0]);rw[show((at_+(k+1):Nat):Int)=(p:Int)+1 from by omega];first|(rw[<-HO.out];rfl)|(rw[<-HO9.out (by omega)];rfl))
    ·rw[if_neg hb2]at HV
     have hk8:k<=8:=by omega
     have agy:b-128<128:=by omega
     have hmul:(b-128)*128^k<18446744073709551616:=Nat.lt_of_lt_of_le (Nat.mul_lt_mul_of_lt_of_le agy (Nat.pow_le_pow_right (by omega) hk8) (Nat.two_pow_pos 56)) (by decide)
     have HO:Hid (bits .or .u64 (v:Int) (IntKind.u64.wrap (((b:Int)-128)*2^(7*k)))=((v+(b-128)*128^k:Nat):Int)):=Lib.hid (by
      have:=Xy (d:=b-128) hk hv hmul
      rw[show((b-128:Nat):Int)=(b:Int)-128 from by omega]at this
      exact this)
     have hnew:v+(b-128)*128^k<128^(k+1):=by
      have h1:(b-128)*128^k<=127*128^k:=Nat.mul_le_mul_right _ (by omega)
      rw[Nat.pow_succ]
      omega
     replace HV:=Lib.hid HV
     have HN:=Lib.hid hnew
     clear hnew hmul
     go_wp2_with fail
     all_goals (try simp only[beq_iff_eq,beq_eq_false_iff_ne,ne_eq]at*)
     all_goals first
      |(exfalso;omega)
      |exact⟨⟨v+(b-128)*128^k,k+1,by omega,by omega,HN.out,by rw[HO.out],by rw[show at_+(k+1)=p+1 from by omega];go_num,by go_num,Lib.hid (by rw[show at_+(k+1)=p+1 from by omega];exact HV.out.symm),trivial⟩,by simp[intOf];omega⟩
  ·obtain rfl:p=s.size:=by omega
   have hd:(au s).drop s.size=[]:=List.drop_eq_nil_of_le (by rw[aC];omega)
   have HR:R=.short:=by rw[<-hr.out,hd];rfl
   go_wp2_with fail
   ((try simp only[Exit.inBlock,Exit.then,Exit.noGoto_ret,Exit.noGoto_normal,Exit.noGoto_exit]);refine bodyPost_ret (results_tmp3 rfl _ _ _) rfl ?_)
   rw[hR0,HR]
   exact⟨rfl,rfl⟩
end Go.Proofs.YtlncengggmgdgaaGreat.fr
namespace Go.Proofs.YtlncengggmgdgaaGreat.fr
open Go.RowKit cm cw
variable {HC : Code}
attribute [local irreducible] par.ah
def bM(v:Nat):List Nat:=if v<128 then [v]else(v%128+128)::bM (v/128)
termination_by v
decreasing_by omega
theorem nV{v:Nat}(h:v<128):bM v=[v]:=by rw[bM,if_pos h]
theorem qm{v:Nat}(h:¬v<128):bM v=(v%128+128)::bM (v/128):=by rw[bM,if_neg h]
theorem Kw:∀(k v:Nat),v<128^(k+1)->(bM v).length<=k+1
 |0,v,h=>by rw[nV (by simpa using h)];simp
 |k+1,v,h=>by
  by_cases hv:v<128
  ·rw[nV hv];simp
  ·rw[qm hv]
   have:=Kw k (v/128) (by rw[Nat.pow_succ]at h;omega)
   simp
   omega
theorem xk(v:Nat):0<(bM v).length:=by
 by_cases hv:v<128
 ·rw[nV hv];simp
 ·rw[qm hv];simp
theorem iZ{v:Nat}(h:v<18446744073709551616):(bM v).length<=10:=Kw 9 v (Nat.lt_of_lt_of_le h (by decide))
def Dh(xs:List Nat):List Nat:=xs.flatMap bM
theorem Tn(xs:List Nat)(k:Nat)(h:k<xs.length):Dh (xs.take (k+1))=Dh (xs.take k)++bM (xs.getD k 0):=by
 unfold Dh
 rw[List.take_add_one,List.flatMap_append]
 simp[List.getD,h]
set_option maxHeartbeats 4000000 in
theorem aaL(b cap:Nat)(xs:List Nat)(w:World)(hc:∀i,i<xs.length->w.cell? ⟨b,i,none⟩=some (.int .u64 ((xs.getD i 0:Nat):Int)))(hx:∀i,xs.getD i 0<18446744073709551616)(hl:xs.length<1000000)(h0:0<xs.length):
  Calls (par.ah HC) 68 #[.slice (some ⟨b,0,none⟩) xs.length cap] w λe w'=>e=.returned (.string (dL (Dh xs)))/\Below w.heap.size w w':=by
 go_enter (par.adx (H:=HC)),Tryz.ntmps68
 go_wp2_with fail
 go_loopw [3,8] (λbv i wr=>∃k:Nat,k<=xs.length/\i=.int .i64 k/\Hid (OwnB wr w.heap.size bv (Dh (xs.take k)))/\Hid ((Dh (xs.take k)).length<=10*k)/\(0<k->Hid (0<(Dh (xs.take k)).length))/\Hid (Below w.heap.size w wr)) (λ_ i _=>xs.length-(intOf i).toNat)
 case atStart=>exact⟨0,Nat.zero_le _,rfl,Lib.hid (OwnB.nil _ _),Lib.hid (by simp[Dh]),λh=>absurd h (by omega),Lib.hid (Below.refl _ _)⟩
 case round=>
  obtain⟨k,hk,rfl,ho,hn,hp,hb⟩:=hrel
  by_cases hlk:k<xs.length
  ·have hcell:=aJ hb.out (hc k hlk)
   have hxk:=hx k
   have HS:=Lib.hid (Tn xs k hlk)
   generalize xs.getD k 0=X at*
   have H10:=Lib.hid (iZ hxk)
   have HPP:=Lib.hid (xk X)
   generalize Dh (xs.take k)=done at*
   go_wp2_with fail
   go_loopw [3,5] (λbv y ww=>∃(v:Nat)(more:List Nat),v<18446744073709551616/\y=.int .u64 (v:Int)/\Hid (OwnB ww w.heap.size bv (done++more))/\Hid (bM X=more++bM v)/\Hid (Below w.heap.size w ww)) (λ_ y _=>(intOf y).toNat)
   case atStart=>exact⟨X,[],hxk,rfl,Lib.hid (by simpa using ho.out),Lib.hid (by simp),hb⟩
   case round=>
    obtain⟨v,more,hv,rfl,ho2,hm,hb2⟩:=hrel
    have HL:Hid ((done++more).length+1<1000000000000):=Lib.hid (by
     have h1:=hn.out
     have h2:=H10.out
     have h3:=congrArg List.length hm.out
     simp at h3⊢
     omega)
    by_cases hlv:v<128
    ·have HM2:Hid (bM X=more++[v]):=Lib.hid (by rw[hm.out,nV hlv])
     go_wp2_with (at_builtin;refine Fg _ rfl _ _ rfl w.heap.size _ (done++more) v _ 1 rfl rfl ?c0 ?c1 HL.out ?c3 ?c4)
     case c0=>exact ho2.out.tr (by exact bm)
     case c1=>simp[qH]
     case c3=>have:=hb2.out.size;simp;omega
     case c4=>
     intro v' w2 ho3 hg hat
     have H2:Hid (OwnB w2 w.heap.size v' (done++bM X)):=Lib.hid (by rw[HM2.out];simpa using ho3)
     have H3:Hid (Below w.heap.size w w2):=Lib.hid (grown_below hg (mg hb2.out (Nat.le_refl _) _) (Nat.le_refl _) ho2.out.block)
     clear ho3 hg hat
     go_wp2_with fail
     refine⟨⟨k+1,by omega,by go_num,Lib.hid (by rw[HS.out];exact H2.out),Lib.hid ?_,λ_=>Lib.hid ?_,H3⟩,by simp[intOf];omega⟩
     ·have h1:=hn.out
      have h2:=H10.out
      rw[HS.out]
      simp
      omega
     ·have h2:=HPP.out
      rw[HS.out]
      simp
      omega
    ·have HM2:Hid (bM X=more++[v%128+128]++bM (v/128)):=Lib.hid (by rw[hm.out,qm hlv];simp)
     generalize hY:v%128+128=Y at HM2
     have HY:=Lib.hid hY
     clear hY
     go_wp2_with (at_builtin;refine Fg _ rfl _ _ rfl w.heap.size _ (done++more) Y wr.heap.size 1 rfl rfl ?d0 ?d1 HL.out ?d3 ?d4)
     case d0=>exact ho2.out.tr (by exact bm)
     case d1=>have:=HY.out;simp[qH];omega
     case d3=>have:=hb2.out.size;simp;omega
     case d4=>
     intro v' w2 ho3 hg hat
     have H2:Hid (OwnB w2 w.heap.size v' (done++(more++[Y]))):=Lib.hid (by simpa using ho3)
     have H3:Hid (Below w.heap.size w w2):=Lib.hid (grown_below hg (mg hb2.out (Nat.le_refl _) _) (Nat.le_refl _) ho2.out.block)
     clear ho3 hg hat
     go_wp2_with fail
     exact⟨⟨v/128,more++[Y],by omega,by first|rfl|go_num,H2,HM2,H3⟩,by simp[intOf];omega⟩
  ·obtain rfl:k=xs.length:=by omega
   rw[List.take_length]at ho hp
   have hs:=ho.out.str (HC:=HC) (hp (by omega)).out
   go_wp2_with fail
   go_ret
   exact⟨rfl,hb.out⟩
theorem put_any(v:Nat)(w:World)(hv:v<18446744073709551616):
  Calls (par.ah HC) 65 #[.int .u64 v] w λe w'=>e=.returned (.string (dL (bM v)))/\Below w.heap.size w w':=by
 go_enter (par.adv (H:=HC)),Tryz.ntmps65
 go_wp2_with fail
 refine(aaL w.heap.size 1 [v] _ (λi hi=> ?_) (λi=> ?_) (by simp) (by simp)).mono ?_
 ·have:i=0:=by simp at hi;exact hi
  subst this
  simp
 ·rcases i with _|i
  ·exact hv
  ·simp
 rintro e w2 ⟨rfl,hb⟩
 have e1:Dh [v]=bM v:=by simp[Dh]
 rw[e1]
 have hB:Below w.heap.size w w2:=by exact bm
 clear hb
 go_wp2_with fail
 go_ret
 exact⟨rfl,hB⟩
end Go.Proofs.YtlncengggmgdgaaGreat.fr
