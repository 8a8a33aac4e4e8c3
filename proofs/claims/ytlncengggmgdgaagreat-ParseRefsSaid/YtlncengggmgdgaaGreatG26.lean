/- Rows of one's own; append; pick, Shape. No conditions. -/
import Derived.Test.YtlncengggmgdgaaGreatG22
import Derived.Test.YtlncengggmgdgaaGreatG25
import Derived.Maps.AppendAt
import Derived.Laws.AppendOwn
import Derived.Laws.OwnMore
set_option linter.unusedVariables false
set_option linter.unusedSimpArgs false
namespace Go.Proofs.YtlncengggmgdgaaGreat.ob
open Go.RowKit hd
attribute [local irreducible] par.ah
theorem Dp:((par.ah par.Hm).info? 24).map (λi=>(i.zero,i.size,i.bytes))=some (some (.int .u64 0),1,8):=by kernel_rfl
theorem XI:((par.ah par.Hm).info? 3).map (λi=>(i.zero,i.size,i.bytes))=some (some (.int .i64 0),1,8):=by kernel_rfl
end Go.Proofs.YtlncengggmgdgaaGreat.ob
namespace Go.Proofs.YtlncengggmgdgaaGreat.ob
open Go.RowKit hd
attribute [local irreducible] par.ah
end Go.Proofs.YtlncengggmgdgaaGreat.ob
namespace Go.Proofs.YtlncengggmgdgaaGreat.ob
open Go.RowKit hd
attribute [local irreducible] par.ah
end Go.Proofs.YtlncengggmgdgaaGreat.ob
namespace Go.Proofs.YtlncengggmgdgaaGreat.ob
open Go.RowKit hd
attribute [local irreducible] par.ah
theorem walk_in(v:Value)(zs:List Int)(w:World)(h:Oq w v zs)(hz:Small zs):
  Calls (par.ah par.Hm) 92 #[v] w λe W'=>Ky (w.heap.size+6) (iL TB zs zs.length (zs.length+1) 0 0 []) e W'/\Below w.heap.size w W':=by
 obtain⟨ad,b,off,cap,rfl,⟨a1,a2⟩,a3,a4,a5,a6⟩:=h
 exact XH b off _ cap ad zs a1 a3 a4 hz w a6
def newF(zs:List Int):Res:=iL TB zs zs.length (zs.length+1) 0 0 []
theorem TM(l:List Ob)(i j:Nat)(hi:i<l.length)(hj:j<5):(xq l)[i*5+j]? =(fF (Dl l i))[j]? :=by
 induction l generalizing i with
 |nil=>simp at hi
 |cons o l ih=>
  cases i with
  |zero=>
   simp only[xq,Nat.zero_mul,Nat.zero_add]
   rw[List.getElem?_append_left (by simp[fF];omega)]
   rfl
  |succ i=>
   simp only[xq]
   rw[List.getElem?_append_right (by simp[fF];omega)]
   have:(i+1)*5+j-(fF o).length=i*5+j:=by simp[fF];omega
   rw[this,ih i (by simpa using hi)]
   rfl
theorem XJ{W:World}{B:Nat}{v:Value}{l:List Ob}(h:rX W B v l)(h0:0<W.heap.size)(hl:l.length<1000000000000):Hy W v l:=by
 rcases h.2 with⟨rfl,h1⟩|⟨g,cap,cur,rfl,h1,h2,h3,h4,h5,h6⟩
 ·have hz:l=[]:=List.eq_nil_of_length_eq_zero h1
  subst hz
  exact Hy.nil h0
 ·refine⟨some ⟨g,0,none⟩,g,0,cap,rfl,⟨λ_=>rfl,λe=>by cases e⟩,h3,⟨by unfold maxLen at h4;omega,hl⟩,?_,fZ.of λi hi=> ?_⟩
  ·rcases Nat.lt_or_ge g W.heap.size with h7|h7
   ·exact h7
   ·rw[Array.getElem?_eq_none h7]at h2;cases h2
  ·have key:∀j u,j<5->(fF (Dl l i))[j]? =some u->W.cell? ⟨g,0+i*5+j,none⟩=some u:=by
    intro j u hj hu
    have h7:=World.ownsRow.cells h (g:=g) rfl (i*5+j) u (by rw[TM l i j hi hj];exact hu)
    have e:(⟨g,0,none⟩:Addr).add (i*5+j)=⟨g,0+i*5+j,none⟩:=by unfold Addr.add;split<;>simp_all
    rw[e]at h7
    exact h7
   exact⟨key 0 _ (by omega) rfl,key 1 _ (by omega) rfl,key 2 _ (by omega) rfl,key 3 _ (by omega) rfl,key 4 _ (by omega) rfl⟩
end Go.Proofs.YtlncengggmgdgaaGreat.ob
