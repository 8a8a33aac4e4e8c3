/- frames.read. LONE=1. No conditions. -/
import Derived.Test.YtlncengggmgdgaaGreatG18
import Derived.Test.YtlncengggmgdgaaGreatG23
import Derived.Laws.ResultCell
set_option linter.unusedVariables false
set_option linter.unusedSimpArgs false
set_option maxRecDepth 100000
namespace Go.Proofs.YtlncengggmgdgaaGreat.fr
open Go.RowKit cm cw
variable {HC : Code}
attribute [local irreducible] par.ah
theorem jl:∀(l:List Nat)(n v:Nat){v' k:Nat},(∀b∈l,b<256)->v<128^n->n<=9->vt n v l=.ok v' k->n<k/\k<=n+l.length/\v'<18446744073709551616
 |[],n,v,v',k,_,_,_,h=>by simp[vt]at h
 |b::t,n,v,v',k,hl,hv,hn,h=>by
  rw[vt]at h
  split at h
  ·cases h
  ·rename_i hf
   split at h
   ·rename_i hb
    cases h
    refine⟨by omega,by simp,?_⟩
    rcases Nat.lt_or_ge n 9 with h8|h8
    ·have h1:(128:Nat)^n<=128^8:=Nat.pow_le_pow_right (by omega) (by omega)
     have h2:b*128^n<=127*128^8:=Nat.mul_le_mul (by omega) h1
     have h3:(128:Nat)^8=72057594037927936:=by decide
     omega
    ·obtain rfl:n=9:=by omega
     have h3:(128:Nat)^9=9223372036854775808:=by decide
     have:b<2:=by omega
     omega
   ·rename_i hb
    have hn8:n<=8:=by
     rcases Nat.lt_or_ge n 9 with h8|h8
     ·omega
     ·exact absurd (.inl ⟨by omega,by omega⟩) hf
    have hnew:v+(b-128)*128^n<128^(n+1):=by
     have hbb:b<256:=hl b (by simp)
     have h1:(b-128)*128^n<=127*128^n:=Nat.mul_le_mul_right _ (by omega)
     rw[Nat.pow_succ]
     omega
    have:=jl t (n+1) _ (λx hx=>hl x (List.mem_cons_of_mem _ hx)) hnew (by omega) h
    simp
    omega
inductive RD where
 |ok (a b n:Nat)
 |bad (e:Int)
def rd(l:List Nat)(at_:Nat):RD:=
 match l.drop at_ with
 |[]=>.bad 2
 |b::t=>if b<1\/127<b then .bad 3 else
  match vt 0 0 t with
  | .short=>.bad 2
  | .form=>.bad 3
  | .ok v k=>if at_+1+k+v+4<=l.length then .ok at_ (at_+1+k) (at_+1+k+v)else .bad 2
def Og:RD->Value
 | .ok a b n=>.tuple #[.agg #[.int .i64 (a:Int),.int .i64 (b:Int),.int .i64 (n:Int)],.int .i64 0]
 | .bad e=>.tuple #[.agg #[.int .i64 0,.int .i64 0,.int .i64 0],.int .i64 e]
set_option maxHeartbeats 4000000 in
theorem Xz(s:ByteArray)(at_:Nat)(w:World)(hs:s.size<1000000000000)(ha:at_<1000000000000000):
  Calls (par.ah HC) 120 #[.string s,.int .i64 at_] w λe w'=>e=.returned (Og (rd (au s) at_))/\Below w.heap.size w w':=by
 by_cases hlt:at_<s.size
 ·have hd:=nU hlt
  have hB:s[at_].toNat<256:=s[at_].toNat_lt
  generalize hb:s[at_].toNat=b at*
  have i1:(at_:Int)<(s.size:Int):=by omega
  by_cases hF:b<1\/127<b
  ·have HR:Hid (rd (au s) at_=.bad 3):=Lib.hid (by unfold rd;rw[hd];simp only;rw[if_pos hF])
   go_enter (par.tH (H:=HC)),Tryz.ntmps120
   go_wp2_with fail
   all_goals (try simp only[beq_iff_eq,beq_eq_false_iff_ne,ne_eq]at*)
   all_goals first|(exfalso;omega)|((try simp only[Exit.inBlock,Exit.then]);refine bodyPost_ret (v:=Og (.bad 3)) ((results_cell_tmp rfl _ _ _).trans ?_) rfl ?_;(simp[go_sem,Og]);exact⟨by rw[HR.out],by exact bm⟩)
  ·have hta:=take_any (HC:=HC) s (at_+1)
   have hrd:rd (au s) at_=match vt 0 0 ((au s).drop (at_+1))with| .short=>.bad 2| .form=>.bad 3| .ok v k=>if at_+1+k+v+4<=s.size then .ok at_ (at_+1+k) (at_+1+k+v)else .bad 2:=by
    unfold rd
    rw[hd]
    simp only
    rw[if_neg hF,aC]
   have hbl:∀x∈(au s).drop (at_+1),x<256:=λx hx=>bP s x (List.mem_of_mem_drop hx)
   have hok:=λv' k=> @jl ((au s).drop (at_+1)) 0 0 v' k hbl
   have hlen:((au s).drop (at_+1)).length=s.size-(at_+1):=by simp[aC]
   generalize vt 0 0 ((au s).drop (at_+1))=R at*
   rw[show(((at_+1:Nat)):Int)=(at_:Int)+1 from by omega]at hta
   have HT:=Lib.hid hta
   clear hd hta hbl
   rcases R with⟨v,k⟩|_|_
   ·obtain⟨k1,k2,k3⟩:=hok v k (by decide) (by omega) rfl
    clear hok
    rw[hlen]at k2
    clear hlen
    by_cases hP:at_+1+k+v+4<=s.size
    ·have HR:Hid (rd (au s) at_=.ok at_ (at_+1+k) (at_+1+k+v)):=Lib.hid (by rw[hrd];simp only;rw[if_pos hP])
     clear hrd
     have hb1:at_+1+k<=s.size:=by omega
     go_enter (par.tH (H:=HC)),Tryz.ntmps120
     go_wp2_with fail
     all_goals (try simp only[beq_iff_eq,beq_eq_false_iff_ne,ne_eq]at*)
     all_goals first|(exfalso;omega)|skip
     refine(HT.out _ hs (by omega)).mono ?_;rintro e ww ⟨rfl,rfl⟩
     unfold jX
     generalize hBd:at_+1+k=Bd at*
     go_wp2_with fail
     all_goals (try simp only[beq_iff_eq,beq_eq_false_iff_ne,ne_eq]at*)
     all_goals first|(exfalso;omega)|skip
     (try simp only[Exit.inBlock,Exit.then])
     refine bodyPost_ret (v:=Og (.ok at_ Bd (Bd+v))) ((results_cell_tmp rfl _ _ _).trans ?_) rfl ?_
     ·simp[go_sem,Og]
     ·exact⟨by rw[HR.out],by exact bm⟩
    ·have HR:Hid (rd (au s) at_=.bad 2):=Lib.hid (by rw[hrd];simp only;rw[if_neg hP])
     clear hrd
     have hb1:at_+1+k<=s.size:=by omega
     go_enter (par.tH (H:=HC)),Tryz.ntmps120
     go_wp2_with fail
     all_goals (try simp only[beq_iff_eq,beq_eq_false_iff_ne,ne_eq]at*)
     all_goals first|(exfalso;omega)|skip
     refine(HT.out _ hs (by omega)).mono ?_;rintro e ww ⟨rfl,rfl⟩
     unfold jX
     generalize hBd:at_+1+k=Bd at*
     go_wp2_with fail
     all_goals (try simp only[beq_iff_eq,beq_eq_false_iff_ne,ne_eq]at*)
     all_goals first|(exfalso;omega)|((try simp only[Exit.inBlock,Exit.then]);refine bodyPost_ret (v:=Og (.bad 2)) ((results_cell_tmp rfl _ _ _).trans ?_) rfl ?_;(simp[go_sem,Og]);exact⟨by rw[HR.out],by exact bm⟩)
   ·have HR:=Lib.hid hrd
    clear hok hrd
    go_enter (par.tH (H:=HC)),Tryz.ntmps120
    go_wp2_with fail
    all_goals (try simp only[beq_iff_eq,beq_eq_false_iff_ne,ne_eq]at*)
    all_goals first|(exfalso;omega)|skip
    refine(HT.out _ hs (by omega)).mono ?_;rintro e ww ⟨rfl,rfl⟩
    unfold jX
    go_wp2_with fail
    ((try simp only[Exit.inBlock,Exit.then]);refine bodyPost_ret (v:=Og (.bad 2)) ((results_cell_tmp rfl _ _ _).trans ?_) rfl ?_;(simp[go_sem,Og]);exact⟨by rw[HR.out],by exact bm⟩)
   ·have HR:=Lib.hid hrd
    clear hok hrd
    go_enter (par.tH (H:=HC)),Tryz.ntmps120
    go_wp2_with fail
    all_goals (try simp only[beq_iff_eq,beq_eq_false_iff_ne,ne_eq]at*)
    all_goals first|(exfalso;omega)|skip
    refine(HT.out _ hs (by omega)).mono ?_;rintro e ww ⟨rfl,rfl⟩
    unfold jX
    go_wp2_with fail
    ((try simp only[Exit.inBlock,Exit.then]);refine bodyPost_ret (v:=Og (.bad 3)) ((results_cell_tmp rfl _ _ _).trans ?_) rfl ?_;(simp[go_sem,Og]);exact⟨by rw[HR.out],by exact bm⟩)
 ·have HR:Hid (rd (au s) at_=.bad 2):=Lib.hid (by unfold rd;rw[List.drop_eq_nil_of_le (by rw[aC];omega)])
  have i1:(s.size:Int)<=(at_:Int):=by omega
  go_enter (par.tH (H:=HC)),Tryz.ntmps120
  go_wp2_with fail
  (try simp only[Exit.inBlock,Exit.then])
  refine bodyPost_ret (v:=Og (.bad 2)) ((results_cell_tmp rfl _ _ _).trans ?_) rfl ?_
  ·simp[go_sem,Og]
  ·exact⟨by rw[HR.out],by exact bm⟩
end Go.Proofs.YtlncengggmgdgaaGreat.fr
namespace Go.Proofs.YtlncengggmgdgaaGreat.fl
open cm cw fr
variable {HC : Code}
attribute [local irreducible] par.ah
def By(l:List Nat):Prop:=∀b∈l,b<256
theorem By.bM:∀v,By (bM v):=by
 intro v
 induction v using Nat.strongRecOn with
 |ind v ih=>
  by_cases h:v<128
  ·rw[nV h];intro b hb;simp at hb;omega
  ·rw[qm h];intro b hb
   rcases List.mem_cons.1 hb with h1|h1
   ·omega
   ·exact ih (v/128) (by omega) b h1
theorem Hf(x:Nat):(le4 x).length=4:=by simp[le4]
theorem By.le4(x:Nat):By (le4 x):=by
 intro b hb
 unfold cm.le4 at hb
 simp at hb
 omega
theorem Hg(rest:List Nat):∀(v n acc:Nat),n<=9->v*128^n<18446744073709551616->(0<n->0<v)->vt n acc (bM v++rest)=.ok (acc+v*128^n) (n+(bM v).length):=by
 intro v
 induction v using Nat.strongRecOn with
 |ind v ih=>
  intro n acc hn hv h0
  have h9:(128:Nat)^9=9223372036854775808:=by decide
  by_cases h:v<128
  ·rw[nV h,List.singleton_append,vt,if_neg,if_pos h]
   ·rfl
   ·rintro(⟨rfl,h1⟩|⟨h1,h2⟩)
    ·omega
    ·have:=h0 h1;omega
  ·have hn8:n<=8:=by
    rcases Nat.lt_or_ge n 9 with h1|h1
    ·omega
    ·obtain rfl:n=9:=by omega
     omega
   rw[qm h,List.cons_append,vt,if_neg (by omega),if_neg (by omega),ih (v/128) (by omega) (n+1) _ (by omega) ?_ (by omega)]
   ·have e:acc+(v%128+128-128)*128^n+v/128*128^(n+1)=acc+v*128^n:=by
     rw[Nat.pow_succ,Nat.add_sub_cancel,Nat.add_assoc,Nat.mul_comm (128^n) 128,<-Nat.mul_assoc,<-Nat.add_mul]
     congr 2
     omega
    rw[e,List.length_cons]
    congr 1
    omega
   ·refine Nat.lt_of_le_of_lt ?_ hv
    rw[Nat.pow_succ,Nat.mul_comm (128^n) 128,<-Nat.mul_assoc]
    exact Nat.mul_le_mul_right _ (by omega)
theorem aeb(rest:List Nat):∀(v n acc m:Nat),n<=9->v*128^n<18446744073709551616->(0<n->0<v)->m<(bM v).length->vt n acc ((bM v).take m)=.short:=by
 intro v
 induction v using Nat.strongRecOn with
 |ind v ih=>
  intro n acc m hn hv h0 hm
  have h9:(128:Nat)^9=9223372036854775808:=by decide
  rcases m with _|m
  ·rfl
  ·by_cases h:v<128
   ·rw[nV h]at hm;simp at hm
   ·have hn8:n<=8:=by
     rcases Nat.lt_or_ge n 9 with h1|h1
     ·omega
     ·obtain rfl:n=9:=by omega
      omega
    rw[qm h]at hm⊢
    rw[List.take_succ_cons,vt,if_neg (by omega),if_neg (by omega)]
    refine ih (v/128) (by omega) (n+1) _ m (by omega) ?_ (by omega) (by simp at hm;omega)
    refine Nat.lt_of_le_of_lt ?_ hv
    rw[Nat.pow_succ,Nat.mul_comm (128^n) 128,<-Nat.mul_assoc]
    exact Nat.mul_le_mul_right _ (by omega)
def hdL(id:Nat)(body:List Nat):List Nat:=id::(bM body.length++body)
def UG(id:Nat)(body:List Nat):List Nat:=hdL id body++le4 (ni (hdL id body))
abbrev Fr:=Nat×List Nat
def Fr.Ok(f:Fr):Prop:=(1<=f.1/\f.1<=127)/\By f.2/\f.2.length<18446744073709551616
inductive PF where
 |ok (id:Nat) (body rest:List Nat)
 |bad (e:Int)
def pf:List Nat->PF
 |[]=>.bad 2
 |b::t=>if b<1\/127<b then .bad 3 else match vt 0 0 t with
  | .short=>.bad 2
  | .form=>.bad 3
  | .ok v k=>if k+v+4<=t.length then
    (if(t.drop (k+v)).take 4=le4 (ni (b::t.take (k+v)))then .ok b ((t.drop k).take v) (t.drop (k+v+4))else .bad 4)
   else .bad 2
theorem Au(b:Nat)(t:List Nat):pf (b::t)=if b<1\/127<b then .bad 3 else match vt 0 0 t with
  | .short=>.bad 2
  | .form=>.bad 3
  | .ok v k=>if k+v+4<=t.length then
    (if(t.drop (k+v)).take 4=le4 (ni (b::t.take (k+v)))then .ok b ((t.drop k).take v) (t.drop (k+v+4))else .bad 4)
   else .bad 2:=rfl
theorem rW(id:Nat)(body:List Nat):UG id body=id::(bM body.length++body++le4 (ni (hdL id body))):=by simp[UG,hdL]
theorem aaM(id:Nat)(body:List Nat):(UG id body).length=5+(bM body.length).length+body.length:=by simp[rW,Hf];omega
theorem aec{id:Nat}{body sum rest:List Nat}(hid:1<=id/\id<=127)(hl:body.length<18446744073709551616)(hs:sum.length=4):
  pf (id::(bM body.length++body++sum)++rest)=if sum=le4 (ni (hdL id body))then .ok id body rest else .bad 4:=by
 rw[List.cons_append,Au,if_neg (by omega)]
 have e:bM body.length++body++sum++rest=bM body.length++(body++sum++rest):=by simp
 have hv:=Hg (body++sum++rest) body.length 0 0 (by omega) (by simpa using hl) (by omega)
 simp only[Nat.pow_zero,Nat.mul_one,Nat.zero_add]at hv
 rw[e,hv]
 simp only
 rw[if_pos (by simp;omega)]
 have t1:(bM body.length++(body++sum++rest)).drop ((bM body.length).length+body.length)=sum++rest:=by
  rw[List.drop_append,List.drop_of_length_le (by omega),List.nil_append,Nat.add_sub_cancel_left,List.append_assoc,List.drop_append,List.drop_of_length_le (by omega)]
  simp
 have t2:(bM body.length++(body++sum++rest)).take ((bM body.length).length+body.length)=bM body.length++body:=by
  rw[List.take_append,List.take_of_length_le (by omega),Nat.add_sub_cancel_left,List.append_assoc,List.take_append,List.take_of_length_le (by omega)]
  simp
 have t3:((bM body.length++(body++sum++rest)).drop (bM body.length).length).take body.length=body:=by
  rw[List.drop_append,List.drop_of_length_le (by omega)]
  simp
 have t4:(bM body.length++(body++sum++rest)).drop ((bM body.length).length+body.length+4)=rest:=by
  rw[<-List.drop_drop,t1,<-hs,List.drop_append,List.drop_of_length_le (by omega)]
  simp
 have t5:(sum++rest).take 4=sum:=by rw[<-hs];simp
 rw[t1,t2,t3,t4,t5]
 rfl
theorem aed{f:Fr}(h:f.Ok)(rest:List Nat):pf (UG f.1 f.2++rest)=.ok f.1 f.2 rest:=by
 rw[rW,aec h.1 h.2.2 (Hf _),if_pos rfl]
theorem ab4{l:List Nat}{id:Nat}{body rest:List Nat}(h:pf l=.ok id body rest):rest.length<l.length:=by
 cases l with
 |nil=>cases h
 |cons b t=>
  rw[Au]at h
  split at h
  ·cases h
  ·cases hv:vt 0 0 t with
   |short=>rw[hv]at h;cases h
   |form=>rw[hv]at h;cases h
   |ok v k=>
    rw[hv]at h
    simp only at h
    split at h
    ·split at h
     ·cases h;simp;omega
     ·cases h
    ·cases h
theorem aee{f:Fr}(h:f.Ok){m:Nat}(h0:0<m)(hm:m<(UG f.1 f.2).length):pf ((UG f.1 f.2).take m)=.bad 2:=by
 obtain⟨m,rfl⟩:∃k,m=k+1:=⟨m-1,by omega⟩
 rw[aaM]at hm
 rw[rW,List.take_succ_cons,Au,if_neg (by have:=h.1;omega)]
 by_cases hp:m<(bM f.2.length).length
 ·rw[List.append_assoc,List.take_append_of_le_length (by omega),aeb [] f.2.length 0 0 m (by omega) (by simpa using h.2.2) (by omega) hp]
 ·rw[List.append_assoc,List.take_append,List.take_of_length_le (by omega)]
  have hv:=Hg ((f.2++le4 (ni (hdL f.1 f.2))).take (m-(bM f.2.length).length)) f.2.length 0 0 (by omega) (by simpa using h.2.2) (by omega)
  simp only[Nat.pow_zero,Nat.mul_one,Nat.zero_add]at hv
  rw[hv]
  simp only
  rw[if_neg (by simp[Hf];omega)]
def joinL(fs:List Fr):List Nat:=fs.flatMap λf=>UG f.1 f.2
inductive AL where
 |ok (fs:List Fr)
 |bad (e:Int)
def nC:Nat->List Nat->AL
 |_,[]=>.ok []
 |0,_::_=>.bad 0
 |n+1,b::t=>match pf (b::t)with
  | .bad e=>.bad e
  | .ok id body rest=>match nC n rest with
   | .ok fs=>.ok ((id,body)::fs)
   | .bad e=>.bad e
theorem yJ{n:Nat}{l:List Nat}(h:l≠[]):nC (n+1) l=match pf l with
  | .bad e=>.bad e
  | .ok id body rest=>match nC n rest with
   | .ok fs=>.ok ((id,body)::fs)
   | .bad e=>.bad e:=by
 cases l with
 |nil=>exact absurd rfl h
 |cons b t=>rfl
theorem Tq:∀(n:Nat)(l:List Nat),l.length<=n->nC n l=nC l.length l:=by
 intro n
 induction n using Nat.strongRecOn with
 |ind n ih=>
  intro l h
  cases l with
  |nil=>cases n<;>rfl
  |cons b t=>
   obtain⟨n,rfl⟩:∃k,n=k+1:=⟨n-1,by simp at h;omega⟩
   rw[yJ (by simp),List.length_cons,yJ (by simp)]
   cases hp:pf (b::t)with
   |bad e=>rfl
   |ok id body rest=>
    have:=ab4 hp
    simp at this h
    simp only
    rw[ih n (by omega) rest (by omega),ih t.length (by omega) rest (by omega)]
def allL(l:List Nat):AL:=nC l.length l
theorem yK{l:List Nat}(h:l≠[]):allL l=match pf l with
  | .bad e=>.bad e
  | .ok id body rest=>match allL rest with
   | .ok fs=>.ok ((id,body)::fs)
   | .bad e=>.bad e:=by
 unfold allL
 cases l with
 |nil=>exact absurd rfl h
 |cons b t=>
  rw[List.length_cons,yJ (by simp)]
  cases hp:pf (b::t)with
  |bad e=>rfl
  |ok id body rest=>
   have:=ab4 hp
   simp at this
   simp only
   rw[Tq _ rest (by omega)]
theorem XA:allL []=.ok []:=rfl
def ahead(fs:List Fr):AL->AL
 | .ok gs=>.ok (fs++gs)
 | .bad e=>.bad e
theorem Di(f:Fr)(fs:List Fr):joinL (f::fs)=UG f.1 f.2++joinL fs:=by simp[joinL]
theorem yL:∀(fs:List Fr)(rest:List Nat),(∀f∈fs,f.Ok)->allL (joinL fs++rest)=ahead fs (allL rest)
 |[],rest,_=>by simp[joinL,ahead];cases allL rest<;>rfl
 |f::fs,rest,h=>by
  rw[Di,List.append_assoc,yK (by rw[rW];simp),aed (h f (by simp)),]
  simp only
  rw[yL fs rest (λg hg=>h g (List.mem_cons_of_mem _ hg))]
  cases allL rest<;>rfl
theorem Tt{fs:List Fr}(h:∀f∈fs,f.Ok):allL (joinL fs)=.ok fs:=by
 have:=yL fs [] h
 rw[List.append_nil,XA]at this
 simpa [ahead]using this
end Go.Proofs.YtlncengggmgdgaaGreat.fl
