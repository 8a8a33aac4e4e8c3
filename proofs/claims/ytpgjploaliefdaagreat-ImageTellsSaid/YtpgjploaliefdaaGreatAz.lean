/- append(x, make([]uint64, n)...): the model's own form. No conditions. -/
import Derived.Test.YtpgjploaliefdaaGreatG03
import Derived.Laws.CopyRow
namespace Go.Proofs.YtpgjploaliefdaaGreat.ob
open Go.RowKit
set_option linter.unusedVariables false
set_option linter.unusedSimpArgs false
theorem EW(z:Value)(m:Nat):(Builtin.zeroCells #[z] m).toList=List.replicate m z:=by
 apply List.ext_getElem
 ·simp[Builtin.zeroCells]
 ·intro i h1 h2
  simp[Builtin.zeroCells,Nat.mod_one]
theorem Bd{P:Program}(w:World)(base:Nat)(t x ty e:TypeId)(i:TypeInfo)(z:Value)(ht:P.underlying t=some (.slice e))(hx:P.underlying x=some (.int .i64))(hi:P.info? e=some i)(hz:i.zero=some z)
  (hsize:i.size=1) (hby:i.bytes=8) (hzc:z.cells= #[z]) (hz1:z.oneCell'=true) (g n cap:Nat) (xs:List Value) (hown:w.ownsRow base e 1 (.slice (some ⟨g,0,none⟩) n cap) n xs) (m:Nat) (hm:n+m<1000000000000) (hbase:base<=w.heap.size):
  ∃v' w',(Builtin.append_ #[t,x] ty #[.slice (some ⟨g,0,none⟩) n cap,.int .i64 (m:Int)]).run P w=.ok v' w'/\w'.ownsRow base e 1 v' (n+m) (xs++List.replicate m z)/\w.grownBy w' (some g)/\(v'.ownBlock=some g\/v'.ownBlock=some w.heap.size):=by
 have hwr:IntKind.i64.wrap (m:Int)=m:=fK _ (by omega)
 have hm0:¬((m:Int)<0):=by omega
 have hbig:¬((281474976710656:Int)<(m:Int)*8):=by omega
 have hxl:xs.length=n:=by have:=hown.1;omega
 rcases hown.2 with⟨h0,_⟩|⟨g',cap',cur,h0,hbg,hg,hnc,hcm,hcs,htake⟩
 ·cases h0
 ·cases h0
  have hzl:=EW z m
  by_cases hroom:n+m<=cap
  ·have hst:=run_storeCells_at P g n e (List.replicate m z) 0 cur w hg (by simp;omega) (by intro v hv;rw[List.eq_of_mem_replicate hv];exact hz1)
   simp only[Nat.add_zero]at hst
   refine⟨.slice (some ⟨g,0,none⟩) (n+m) cap,w.setRow g (cur.toList.take n++List.replicate m z++cur.toList.drop (n+(List.replicate m z).length)).toArray,?_,⟨by simp[hxl],.inr ⟨g,cap,_,rfl,hbg,setRow_heap w g cur _ e _ hg,hroom,hcm,?_,?_⟩⟩,⟨rfl,rfl,rfl,by simp,λk _ hk=>setRow_other w g k _ (λe=>hk (by simp[e]))⟩,.inl rfl⟩
   ·by_cases acQ:m=0
    ·subst acQ
     have hw0:IntKind.i64.wrap 0=0:=by decide
     simp[Builtin.append_,run_underlying ht,run_underlying hx,sizeOf,typeInfo,hi,hsize,hby,hwr,hw0,hm0,hbig,zeroValue,hz,hzc,hzl,hroom,asInt,asIntOf,Addr.add_lit]at hst⊢
     first
      |exact hst
      |(rw[hst];simp;done)
      |(intro h;exfalso;omega)
      |(rw[hst];simp;intro h;exfalso;omega)
    ·simp[Builtin.append_,run_underlying ht,run_underlying hx,sizeOf,typeInfo,hi,hsize,hby,hwr,hm0,hbig,zeroValue,hz,hzc,hzl,hroom,asInt,asIntOf,Addr.add_lit,acQ]at hst⊢
     first
      |exact hst
      |(rw[hst];simp;done)
      |(intro h;exfalso;omega)
      |(rw[hst];simp;intro h;exfalso;omega)
   ·simp;omega
   ·simp only[Nat.mul_one]at htake
    rw[htake]
    have:(xs++List.replicate m z).length=n+m:=by simp[hxl]
    simp only[Nat.mul_one,List.append_assoc]
    rw[<-List.append_assoc,<-this]
    exact List.take_left
  ·have hf0:¬n+m<=cap:=hroom
   have holds:∀j u,xs[j]? =some u->w.drew.cell? ((⟨g,0,none⟩:Addr).add j)=some u:=λj u hj=>by simpa using hown.cells (g:=g) rfl j u hj
   have hfo:=run_firstCells_some (P:=P) w.drew 1 n ⟨g,0,none⟩ n cap xs (by omega) holds
   have hge:=grownCap_ge w (n+m) cap e
   have hcm2:grownCap w (n+m) cap e<=maxLen:=grownCap_le_maxLen w (n+m) cap e (by unfold maxLen;omega)
   have h48:¬(281474976710656<Builtin.nextslicecap (n+m) cap*8):=by have:=growslice_fits (need:=n+m) (old:=cap) (bytes:=8) (by omega) (by omega);omega
   have h63:¬(9223372036854775807<((n:Int)+(m:Int))):=by omega
   have hm1:¬m=0:=by omega
   refine⟨.slice (some ⟨w.heap.size,0,none⟩) (n+m) (grownCap w (n+m) cap e),w.drew.alloc (.cells (xs.toArray++(List.replicate m z).toArray++Builtin.zeroCells #[z] (grownCap w (n+m) cap e-(n+m))) e),?_,⟨by simp[hxl],.inr ⟨w.heap.size,_,_,rfl,hbase,heap_alloc_new w.drew _,hge,hcm2,?_,?_⟩⟩,⟨rfl,rfl,rfl,by simp,λk hk _=>Below.heap_alloc w.drew _ k hk⟩,.inr rfl⟩
   ·have hza:Builtin.zeroCells #[z] m=(List.replicate m z).toArray:=by rw[<-hzl]
    simp[Builtin.append_,run_underlying ht,run_underlying hx,sizeOf,typeInfo,hi,hsize,hby,hwr,hm0,hbig,zeroValue,hz,hzc,hza,hroom,asInt,asIntOf,hm1,h48,h63,Question.forced,hfo,newRow,grownCap]
   ·simp[size_zeroCells];omega
   ·simp only[Array.toList_append,List.append_assoc,Nat.mul_one]
    rw[<-List.append_assoc]
    have:(xs++List.replicate m z).length=n+m:=by simp[hxl]
    rw[<-this]
    exact List.take_left
end Go.Proofs.YtpgjploaliefdaaGreat.ob
