/- frames.read. LONE=1. No conditions. -/
import Derived.Test.YtpgjploaliefdaaGreatFf
import Derived.Test.YtpgjploaliefdaaGreatFe
import Derived.Laws.ResultCell
namespace Go.Proofs.YtpgjploaliefdaaGreat.fr
open Go.RowKit cm cw
set_option linter.unusedVariables false
set_option linter.unusedSimpArgs false
theorem adx:∀(l:List Nat)(n v:Nat){v' k:Nat},(∀b∈l,b<256)->v<128^n->n<=9->vt n v l=.ok v' k->n<k/\k<=n+l.length/\v'<18446744073709551616
 |[],n,v,v',k,_,_,_,h=>by simp[vt]at h
 |b::t,n,v,v',k,hl,hv,hn,h=>by
  rw[vt]at h
  split at h
  ·cases h
  ·rename_i hf
   split at h
   ·rename_i hb
    cases h
    refine⟨by omega,by simp,?_⟩
    rcases Nat.lt_or_ge n 9 with h8|h8
    ·have h1:(128:Nat)^n<=128^8:=Nat.pow_le_pow_right (by omega) (by omega)
     have h2:b*128^n<=127*128^8:=Nat.mul_le_mul (by omega) h1
     have h3:(128:Nat)^8=72057594037927936:=by decide
     omega
    ·obtain rfl:n=9:=by omega
     have h3:(128:Nat)^9=9223372036854775808:=by decide
     have:b<2:=by omega
     omega
   ·rename_i hb
    have hn8:n<=8:=by
     rcases Nat.lt_or_ge n 9 with h8|h8
     ·omega
     ·exact absurd (.inl ⟨by omega,by omega⟩) hf
    have hnew:v+(b-128)*128^n<128^(n+1):=by
     have hbb:b<256:=hl b (by simp)
     have h1:(b-128)*128^n<=127*128^n:=Nat.mul_le_mul_right _ (by omega)
     rw[Nat.pow_succ]
     omega
    have:=adx t (n+1) _ (λx hx=>hl x (List.mem_cons_of_mem _ hx)) hnew (by omega) h
    simp
    omega
inductive RD where
 |ok (a b n:Nat)
 |bad (e:Int)
def rd(l:List Nat)(at_:Nat):RD:=
 match l.drop at_ with
 |[]=>.bad 2
 |b::t=>if b<1\/127<b then .bad 3 else
  match vt 0 0 t with
  | .short=>.bad 2
  | .form=>.bad 3
  | .ok v k=>if at_+1+k+v+4<=l.length then .ok at_ (at_+1+k) (at_+1+k+v)else .bad 2
def rdV:RD->Value
 | .ok a b n=>.tuple #[.agg #[.int .i64 (a:Int),.int .i64 (b:Int),.int .i64 (n:Int)],.int .i64 0]
 | .bad e=>.tuple #[.agg #[.int .i64 0,.int .i64 0,.int .i64 0],.int .i64 e]
end Go.Proofs.YtpgjploaliefdaaGreat.fr
namespace Go.Proofs.YtpgjploaliefdaaGreat.fl
open cm cw fr
set_option linter.unusedVariables false
set_option linter.unusedSimpArgs false
def By(l:List Nat):Prop:=∀b∈l,b<256
theorem By.app{a b:List Nat}(h:By a)(k:By b):By (a++b):=λx hx=>(List.mem_append.1 hx).elim (h x) (k x)
theorem By.left{a b:List Nat}(h:By (a++b)):By a:=λx hx=>h x (List.mem_append_left _ hx)
theorem By.right{a b:List Nat}(h:By (a++b)):By b:=λx hx=>h x (List.mem_append_right _ hx)
theorem By.drop{a:List Nat}(h:By a)(k:Nat):By (a.drop k):=λx hx=>h x (List.mem_of_mem_drop hx)
theorem By.take{a:List Nat}(h:By a)(k:Nat):By (a.take k):=λx hx=>h x (List.mem_of_mem_take hx)
theorem By.aW:∀v,By (aW v):=by
 intro v
 induction v using Nat.strongRecOn with
 |ind v ih=>
  by_cases h:v<128
  ·rw[iJ h];intro b hb;simp at hb;omega
  ·rw[ru h];intro b hb
   rcases List.mem_cons.1 hb with h1|h1
   ·omega
   ·exact ih (v/128) (by omega) b h1
theorem Ik(x:Nat):(le4 x).length=4:=by simp[le4]
theorem By.le4(x:Nat):By (le4 x):=by
 intro b hb
 unfold cm.le4 at hb
 simp at hb
 omega
theorem afm{x y:Nat}(hx:x<4294967296)(hy:y<4294967296)(h:le4 x=le4 y):x=y:=by
 rw[<-zu x hx,<-zu y hy,h]
theorem sum_lt{l:List Nat}(h:By l):iR l<4294967296:=zq l (by omega) h
theorem Vt(rest:List Nat):∀(v n acc:Nat),n<=9->v*128^n<18446744073709551616->(0<n->0<v)->vt n acc (aW v++rest)=.ok (acc+v*128^n) (n+(aW v).length):=by
 intro v
 induction v using Nat.strongRecOn with
 |ind v ih=>
  intro n acc hn hv h0
  have h9:(128:Nat)^9=9223372036854775808:=by decide
  by_cases h:v<128
  ·rw[iJ h,List.singleton_append,vt,if_neg,if_pos h]
   ·rfl
   ·rintro(⟨rfl,h1⟩|⟨h1,h2⟩)
    ·omega
    ·have:=h0 h1;omega
  ·have hn8:n<=8:=by
    rcases Nat.lt_or_ge n 9 with h1|h1
    ·omega
    ·obtain rfl:n=9:=by omega
     omega
   rw[ru h,List.cons_append,vt,if_neg (by omega),if_neg (by omega),ih (v/128) (by omega) (n+1) _ (by omega) ?_ (by omega)]
   ·have e:acc+(v%128+128-128)*128^n+v/128*128^(n+1)=acc+v*128^n:=by
     rw[Nat.pow_succ,Nat.add_sub_cancel,Nat.add_assoc,Nat.mul_comm (128^n) 128,<-Nat.mul_assoc,<-Nat.add_mul]
     congr 2
     omega
    rw[e,List.length_cons]
    congr 1
    omega
   ·refine Nat.lt_of_le_of_lt ?_ hv
    rw[Nat.pow_succ,Nat.mul_comm (128^n) 128,<-Nat.mul_assoc]
    exact Nat.mul_le_mul_right _ (by omega)
theorem OW:∀(l:List Nat)(n acc v k:Nat),By l->vt n acc l=.ok v k->∃x,v=acc+x*128^n/\k=n+(aW x).length/\l.take (aW x).length=aW x/\(0<n->0<x)
 |[],n,acc,v,k,_,h=>by simp[vt]at h
 |b::t,n,acc,v,k,hl,h=>by
  rw[vt]at h
  split at h
  ·cases h
  ·rename_i hf
   split at h
   ·rename_i hb
    cases h
    exact⟨b,rfl,by rw[iJ hb];rfl,by rw[iJ hb];rfl,λh=>by rcases Nat.eq_zero_or_pos b with e|e;exact absurd (.inr ⟨h,e⟩) hf;exact e⟩
   ·rename_i hb
    have hbb:b<256:=hl b (by simp)
    obtain⟨x,h1,h2,h3,h4⟩:=OW t (n+1) _ v k (λy hy=>hl y (List.mem_cons_of_mem _ hy)) h
    have hx:=h4 (by omega)
    have hm:(b-128+128*x)%128+128=b:=by omega
    have hd:(b-128+128*x)/128=x:=by omega
    have e:aW (b-128+128*x)=b::aW x:=by rw[ru (by omega),hm,hd]
    refine⟨b-128+128*x,?_,?_,?_,λ_=>by omega⟩
    ·rw[h1,Nat.pow_succ,Nat.add_mul,Nat.mul_comm (128^n) 128,<-Nat.mul_assoc,Nat.mul_comm x 128,Nat.add_assoc]
    ·rw[e,h2,List.length_cons];omega
    ·rw[e,List.length_cons,List.take_succ_cons,h3]
theorem aaJ(rest:List Nat):∀(v n acc m:Nat),n<=9->v*128^n<18446744073709551616->(0<n->0<v)->m<(aW v).length->vt n acc ((aW v).take m)=.short:=by
 intro v
 induction v using Nat.strongRecOn with
 |ind v ih=>
  intro n acc m hn hv h0 hm
  have h9:(128:Nat)^9=9223372036854775808:=by decide
  rcases m with _|m
  ·rfl
  ·by_cases h:v<128
   ·rw[iJ h]at hm;simp at hm
   ·have hn8:n<=8:=by
     rcases Nat.lt_or_ge n 9 with h1|h1
     ·omega
     ·obtain rfl:n=9:=by omega
      omega
    rw[ru h]at hm⊢
    rw[List.take_succ_cons,vt,if_neg (by omega),if_neg (by omega)]
    refine ih (v/128) (by omega) (n+1) _ m (by omega) ?_ (by omega) (by simp at hm;omega)
    refine Nat.lt_of_le_of_lt ?_ hv
    rw[Nat.pow_succ,Nat.mul_comm (128^n) 128,<-Nat.mul_assoc]
    exact Nat.mul_le_mul_right _ (by omega)
def SG(id:Nat)(body:List Nat):List Nat:=id::(aW body.length++body)
def OX(id:Nat)(body:List Nat):List Nat:=SG id body++le4 (iR (SG id body))
abbrev Fr:=Nat×List Nat
def Fr.Ok(f:Fr):Prop:=(1<=f.1/\f.1<=127)/\By f.2/\f.2.length<18446744073709551616
inductive PF where
 |ok (id:Nat) (body rest:List Nat)
 |bad (e:Int)
def pf:List Nat->PF
 |[]=>.bad 2
 |b::t=>if b<1\/127<b then .bad 3 else match vt 0 0 t with
  | .short=>.bad 2
  | .form=>.bad 3
  | .ok v k=>if k+v+4<=t.length then
    (if(t.drop (k+v)).take 4=le4 (iR (b::t.take (k+v)))then .ok b ((t.drop k).take v) (t.drop (k+v+4))else .bad 4)
   else .bad 2
theorem Dc(b:Nat)(t:List Nat):pf (b::t)=if b<1\/127<b then .bad 3 else match vt 0 0 t with
  | .short=>.bad 2
  | .form=>.bad 3
  | .ok v k=>if k+v+4<=t.length then
    (if(t.drop (k+v)).take 4=le4 (iR (b::t.take (k+v)))then .ok b ((t.drop k).take v) (t.drop (k+v+4))else .bad 4)
   else .bad 2:=rfl
theorem aaK{f:Fr}(h:f.Ok):By (SG f.1 f.2):=by
 intro b hb
 unfold SG at hb
 rcases List.mem_cons.1 hb with h1|h1
 ·have:=h.1.2;omega
 ·exact(By.aW _).app h.2.1 b h1
theorem ahj{f:Fr}(h:f.Ok):By (OX f.1 f.2):=(aaK h).app (By.le4 _)
theorem wI(id:Nat)(body:List Nat):OX id body=id::(aW body.length++body++le4 (iR (SG id body))):=by simp[OX,SG]
theorem X9(id:Nat)(body:List Nat):(OX id body).length=5+(aW body.length).length+body.length:=by simp[wI,Ik];omega
theorem aaL{id:Nat}{body sum rest:List Nat}(hid:1<=id/\id<=127)(hl:body.length<18446744073709551616)(hs:sum.length=4):
  pf (id::(aW body.length++body++sum)++rest)=if sum=le4 (iR (SG id body))then .ok id body rest else .bad 4:=by
 rw[List.cons_append,Dc,if_neg (by omega)]
 have e:aW body.length++body++sum++rest=aW body.length++(body++sum++rest):=by simp
 have hv:=Vt (body++sum++rest) body.length 0 0 (by omega) (by simpa using hl) (by omega)
 simp only[Nat.pow_zero,Nat.mul_one,Nat.zero_add]at hv
 rw[e,hv]
 simp only
 rw[if_pos (by simp;omega)]
 have t1:(aW body.length++(body++sum++rest)).drop ((aW body.length).length+body.length)=sum++rest:=by
  rw[List.drop_append,List.drop_of_length_le (by omega),List.nil_append,Nat.add_sub_cancel_left,List.append_assoc,List.drop_append,List.drop_of_length_le (by omega)]
  simp
 have t2:(aW body.length++(body++sum++rest)).take ((aW body.length).length+body.length)=aW body.length++body:=by
  rw[List.take_append,List.take_of_length_le (by omega),Nat.add_sub_cancel_left,List.append_assoc,List.take_append,List.take_of_length_le (by omega)]
  simp
 have t3:((aW body.length++(body++sum++rest)).drop (aW body.length).length).take body.length=body:=by
  rw[List.drop_append,List.drop_of_length_le (by omega)]
  simp
 have t4:(aW body.length++(body++sum++rest)).drop ((aW body.length).length+body.length+4)=rest:=by
  rw[<-List.drop_drop,t1,<-hs,List.drop_append,List.drop_of_length_le (by omega)]
  simp
 have t5:(sum++rest).take 4=sum:=by rw[<-hs];simp
 rw[t1,t2,t3,t4,t5]
 rfl
theorem Np{f:Fr}(h:f.Ok)(rest:List Nat):pf (OX f.1 f.2++rest)=.ok f.1 f.2 rest:=by
 rw[wI,aaL h.1 h.2.2 (Ik _),if_pos rfl]
theorem Ya{l:List Nat}{id:Nat}{body rest:List Nat}(hl:By l)(hb:l.length<18446744073709551616)(h:pf l=.ok id body rest):l=OX id body++rest/\Fr.Ok (id,body):=by
 cases l with
 |nil=>cases h
 |cons b t=>
  have ht:By t:=λx hx=>hl x (List.mem_cons_of_mem _ hx)
  rw[Dc]at h
  split at h
  ·cases h
  ·rename_i hid
   cases hv:vt 0 0 t with
   |short=>rw[hv]at h;cases h
   |form=>rw[hv]at h;cases h
   |ok v k=>
    rw[hv]at h
    simp only at h
    split at h
    ·rename_i hk
     split at h
     ·rename_i hs
      cases h
      obtain⟨x,h1,h2,h3,_⟩:=OW t 0 0 v k ht hv
      simp at h1 h2
      subst h1
      subst h2
      generalize hP:aW v=p at*
      have hlen:((t.drop p.length).take v).length=v:=by simp;omega
      have hbody:t=p++(t.drop p.length).take v++(t.drop (p.length+v)).take 4++t.drop (p.length+v+4):=by
       conv=>lhs;rw[<-List.take_append_drop p.length t,h3,<-List.take_append_drop v (t.drop p.length),List.drop_drop,<-List.take_append_drop 4 (t.drop (p.length+v)),List.drop_drop]
       simp
      refine⟨?_,⟨by omega,by omega⟩,(ht.drop _).take _,by dsimp only;rw[hlen];simp at hb;omega⟩
      have hhd:SG id ((t.drop p.length).take v)=id::t.take (p.length+v):=by
       unfold SG
       rw[hlen,hP]
       congr 1
       rw[List.take_add,h3]
      rw[wI,hhd,hlen,hP,<-hs,List.cons_append,<-hbody]
     ·cases h
    ·cases h
theorem Vu{l:List Nat}{id:Nat}{body rest:List Nat}(h:pf l=.ok id body rest):rest.length<l.length:=by
 cases l with
 |nil=>cases h
 |cons b t=>
  rw[Dc]at h
  split at h
  ·cases h
  ·cases hv:vt 0 0 t with
   |short=>rw[hv]at h;cases h
   |form=>rw[hv]at h;cases h
   |ok v k=>
    rw[hv]at h
    simp only at h
    split at h
    ·split at h
     ·cases h;simp;omega
     ·cases h
    ·cases h
theorem ahk{f:Fr}(h:f.Ok){m:Nat}(h0:0<m)(hm:m<(OX f.1 f.2).length):pf ((OX f.1 f.2).take m)=.bad 2:=by
 obtain⟨m,rfl⟩:∃k,m=k+1:=⟨m-1,by omega⟩
 rw[X9]at hm
 rw[wI,List.take_succ_cons,Dc,if_neg (by have:=h.1;omega)]
 by_cases hp:m<(aW f.2.length).length
 ·rw[List.append_assoc,List.take_append_of_le_length (by omega),aaJ [] f.2.length 0 0 m (by omega) (by simpa using h.2.2) (by omega) hp]
 ·rw[List.append_assoc,List.take_append,List.take_of_length_le (by omega)]
  have hv:=Vt ((f.2++le4 (iR (SG f.1 f.2))).take (m-(aW f.2.length).length)) f.2.length 0 0 (by omega) (by simpa using h.2.2) (by omega)
  simp only[Nat.pow_zero,Nat.mul_one,Nat.zero_add]at hv
  rw[hv]
  simp only
  rw[if_neg (by simp[Ik];omega)]
def joinL(fs:List Fr):List Nat:=fs.flatMap λf=>OX f.1 f.2
inductive AL where
 |ok (fs:List Fr)
 |bad (e:Int)
def Rf:Nat->List Nat->AL
 |_,[]=>.ok []
 |0,_::_=>.bad 0
 |n+1,b::t=>match pf (b::t)with
  | .bad e=>.bad e
  | .ok id body rest=>match Rf n rest with
   | .ok fs=>.ok ((id,body)::fs)
   | .bad e=>.bad e
theorem BA{n:Nat}{l:List Nat}(h:l≠[]):Rf (n+1) l=match pf l with
  | .bad e=>.bad e
  | .ok id body rest=>match Rf n rest with
   | .ok fs=>.ok ((id,body)::fs)
   | .bad e=>.bad e:=by
 cases l with
 |nil=>exact absurd rfl h
 |cons b t=>rfl
theorem Ri:∀(n:Nat)(l:List Nat),l.length<=n->Rf n l=Rf l.length l:=by
 intro n
 induction n using Nat.strongRecOn with
 |ind n ih=>
  intro l h
  cases l with
  |nil=>cases n<;>rfl
  |cons b t=>
   obtain⟨n,rfl⟩:∃k,n=k+1:=⟨n-1,by simp at h;omega⟩
   rw[BA (by simp),List.length_cons,BA (by simp)]
   cases hp:pf (b::t)with
   |bad e=>rfl
   |ok id body rest=>
    have:=Vu hp
    simp at this h
    simp only
    rw[ih n (by omega) rest (by omega),ih t.length (by omega) rest (by omega)]
def allL(l:List Nat):AL:=Rf l.length l
theorem Gp{l:List Nat}(h:l≠[]):allL l=match pf l with
  | .bad e=>.bad e
  | .ok id body rest=>match allL rest with
   | .ok fs=>.ok ((id,body)::fs)
   | .bad e=>.bad e:=by
 unfold allL
 cases l with
 |nil=>exact absurd rfl h
 |cons b t=>
  rw[List.length_cons,BA (by simp)]
  cases hp:pf (b::t)with
  |bad e=>rfl
  |ok id body rest=>
   have:=Vu hp
   simp at this
   simp only
   rw[Ri _ rest (by omega)]
theorem Vw:allL []=.ok []:=rfl
def ahead(fs:List Fr):AL->AL
 | .ok gs=>.ok (fs++gs)
 | .bad e=>.bad e
theorem yS(f:Fr)(fs:List Fr):joinL (f::fs)=OX f.1 f.2++joinL fs:=by simp[joinL]
theorem abX(a b:List Fr):joinL (a++b)=joinL a++joinL b:=by simp[joinL]
theorem Gq:∀(fs:List Fr)(rest:List Nat),(∀f∈fs,f.Ok)->allL (joinL fs++rest)=ahead fs (allL rest)
 |[],rest,_=>by simp[joinL,ahead];cases allL rest<;>rfl
 |f::fs,rest,h=>by
  rw[yS,List.append_assoc,Gp (by rw[wI];simp),Np (h f (by simp)),]
  simp only
  rw[Gq fs rest (λg hg=>h g (List.mem_cons_of_mem _ hg))]
  cases allL rest<;>rfl
theorem abY{fs:List Fr}(h:∀f∈fs,f.Ok):allL (joinL fs)=.ok fs:=by
 have:=Gq fs [] h
 rw[List.append_nil,Vw]at this
 simpa [ahead]using this
theorem abZ:∀(n:Nat)(l:List Nat)(fs:List Fr),l.length<=n->By l->l.length<18446744073709551616->allL l=.ok fs->l=joinL fs/\∀f∈fs,f.Ok:=by
 intro n
 induction n with
 |zero=>
  intro l fs hn _ _ h
  have:l=[]:=List.eq_nil_of_length_eq_zero (by omega)
  subst this
  cases h
  exact⟨rfl,λf hf=>by simp at hf⟩
 |succ n ih=>
  intro l fs hn hl hb h
  by_cases hne:l=[]
  ·subst hne
   cases h
   exact⟨rfl,λf hf=>by simp at hf⟩
  ·rw[Gp hne]at h
   cases hp:pf l with
   |bad e=>rw[hp]at h;cases h
   |ok id body rest=>
    rw[hp]at h
    simp only at h
    have hlt:=Vu hp
    obtain⟨e1,hok⟩:=Ya hl hb hp
    cases hr:allL rest with
    |bad e=>rw[hr]at h;cases h
    |ok gs=>
     rw[hr]at h
     cases h
     have hrb:By rest:=by rw[e1]at hl;exact hl.right
     obtain⟨e2,hall⟩:=ih rest gs (by omega) hrb (by omega) hr
     refine⟨by rw[yS,<-e2];exact e1,λf hf=> ?_⟩
     rcases List.mem_cons.1 hf with e|e
     ·rw[e];exact hok
     ·exact hall f e
theorem afn{f g:Fr}(hf:f.Ok)(hg:g.Ok){x:List Nat}(h:OX g.1 g.2=OX f.1 f.2++x):f=g:=by
 have h1:=Np hf x
 have h2:=Np hg []
 rw[List.append_nil,h,h1]at h2
 injection h2 with a b c
 exact Prod.ext a b
end Go.Proofs.YtpgjploaliefdaaGreat.fl
