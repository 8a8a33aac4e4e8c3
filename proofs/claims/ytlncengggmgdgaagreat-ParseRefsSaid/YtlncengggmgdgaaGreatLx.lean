/- Arguments of a law, opened. No conditions. -/
import Derived.Test.YtlncengggmgdgaaGreatGr
import Derived.WalkKit
import Derived.ProofKit
import Derived.OpenShut
import Derived.Lib.SmallJoins
import Derived.Deep.Slices
set_option linter.unusedVariables false
set_option linter.unusedSimpArgs false
namespace Go.Proofs.YtlncengggmgdgaaGreat.lx
open Go.ChangeShapes Go.WideShapes Go.ChangeAt Go.RowKit Go.Joins gr
theorem GY{w:World}{a:Addr}{v:Value}(h:w.cell? a=some v):a=⟨a.block,a.off,none⟩:=by
 obtain⟨b,o,s⟩:=a
 cases s with
 |none=>rfl
 |some s=>unfold World.cell? at h;dsimp only at h;split at h<;>simp at h
theorem XD{α:Type}{n:Nat}{p:Nat->α->Prop}(h:∀i,i<n->∃x,p i x):∃l:List α,l.length=n/\∀i x,l[i]? =some x->p i x:=by
 induction n with
 |zero=>exact⟨[],rfl,λi x hx=>by simp at hx⟩
 |succ n ih=>
  obtain⟨l,hl,hp⟩:=ih (λi hi=>h i (by omega))
  obtain⟨x,hx⟩:=h n (by omega)
  refine⟨l++[x],by simp[hl],λi y hy=> ?_⟩
  by_cases e:i<n
  ·rw[List.getElem?_append_left (by omega)]at hy
   exact hp i y hy
  ·rw[List.getElem?_append_right (by omega)]at hy
   by_cases e2:i=n
   ·subst e2
    rw[hl,Nat.sub_self]at hy
    simp at hy
    rw[<-hy]
    exact hx
   ·rw[List.getElem?_eq_none (by simp;omega)]at hy
    cases hy
section
variable {H : Type} {enc : TypeId × Value → H} {w : World} {base : Nat} {spare : Nat → Bool} {held : Bool} {P : Program}
theorem aaN{α:Type}{k:Nat}{en:α->List Value}{ok:α->Prop}{T E:TypeId}{r:Reach}{b0:Nat}{v:Value}{d:DataW H}{p:List MemPlace}(hT:P.underlying T=some (.slice E))(hC:P.cellsOf E=k)(hk0:0<k)
  (hrd:∀(n:Nat)(cs:List Value)(y:DataW H×List MemPlace),DataW.trod enc P w base spare held n E cs=some y->∃x:α,cs=en x/\(en x).length=k/\ok x)
  (hv:Value.okWide P w r b0 T v) (h:DataW.Trod enc P w base spare held T v d p):∃l:List α,jc k en w v l/\∀x∈l,ok x:=by
 obtain⟨ad,len,cap,rfl⟩:=okWide_slice hT hv
 obtain⟨fuel,hf⟩:=h
 rcases Go.Deep.open_slice hT hf with⟨hcs,_⟩|⟨a,len',cap',m,n,D,Pl,hcs,_,hl,hm,hmm,_,hx⟩
 ·simp[Value.cells]at hcs
  obtain⟨rfl,rfl,rfl⟩:=hcs
  exact⟨[],jc.nil,λx hx=>by simp at hx⟩
 ·simp[Value.cells]at hcs
  obtain⟨rfl,rfl,rfl⟩:=hcs
  have hml:len<=m:=by rw[hmm];split<;>omega
  have key:∀i,i<len->∃x:α,(∀j y,(en x)[j]? =some y->w.cell? ((a.add (i*k)).add j)=some y)/\(en x).length=k/\ok x:=by
   intro i hi
   obtain⟨cs',h1,h2⟩:=hx i (by omega)
   rw[hC]at h1
   obtain⟨_,hz,hcell⟩:=World.cells?_some h1
   obtain⟨x,rfl,hlk,hok⟩:=hrd _ _ _ h2
   refine⟨x,λj y hy=> ?_,hlk,hok⟩
   have hj:j<(en x).length:=by
    rcases Nat.lt_or_ge j (en x).length with h|h
    ·exact h
    ·rw[List.getElem?_eq_none h]at hy;cases hy
   rw[hcell j (by omega),hy]
  obtain⟨l,hll,hp⟩:=XD key
  refine⟨l,?_,λx hx=> ?_⟩
  ·have hspot:0<len->a=⟨a.block,a.off,none⟩/\a.block<w.heap.size:=λh0=>by
    have hx0:l[0]? =some l[0]:=List.getElem?_eq_getElem (by omega)
    obtain⟨h1,h2,_⟩:=hp 0 _ hx0
    have hlt:0<(en l[0]).length:=by omega
    have h3:=h1 0 _ (List.getElem?_eq_getElem hlt)
    rw[Nat.zero_mul]at h3
    have e0:(a.add 0).add 0=a:=by unfold Addr.add;simp
    rw[e0]at h3
    exact⟨GY h3,World.block_lt_of_cell? _ _ h3⟩
   refine jc.mk (ad:=some a) (b:=a.block) (off:=a.off) (cap:=cap) (by rw[hll]) (λh0=>by rw[<-(hspot (by omega)).1]) (λe=>by cases e) (by omega) (by unfold maxLen at hm;omega) (λh0=>(hspot (by omega)).2) (λi j x y hx hy=> ?_)
   have hi:i<len:=by
    rcases Nat.lt_or_ge i l.length with h|h
    ·omega
    ·rw[List.getElem?_eq_none h]at hx;cases hx
   have h1:=(hp i x hx).1 j y hy
   have hs:=(hspot (by omega)).1
   have e:(a.add (i*k)).add j=⟨a.block,a.off+i*k+j,none⟩:=by
    obtain⟨b,o,s⟩:=a
    have hs2:s=none:=by simpa using hs
    subst hs2
    unfold Addr.add
    by_cases h1:i*k=0<;>by_cases h2:j=0<;>simp[h1,h2]
   rw[<-e]
   exact h1
  ·obtain⟨i,hi,rfl⟩:=List.getElem_of_mem hx
   exact(hp i _ (List.getElem?_eq_getElem hi)).2.2
def enI(n:Int):List Value:=[.int .i64 n]
def nH(n:Int):List Value:=[.int .u64 n]
def YM(s:ByteArray):List Value:=[.string s]
theorem Tv{k:IntKind}{E:TypeId}(hE:P.underlying E=some (.int k)){n:Nat}{cs:List Value}{y:DataW H×List MemPlace}(h:DataW.trod enc P w base spare held n E cs=some y):∃x:Int,cs=[.int k x]/\(Lit.int k x).wf=true:=by
 obtain⟨a0,e0,_,w0⟩:=DataW.trod_int hE h
 exact⟨a0,e0,w0⟩
theorem XE{r:Reach}{b0:Nat}{v:Value}{d:DataW H}{p:List MemPlace}{T E:TypeId}(hT:P.underlying T=some (.slice E))(hE:P.underlying E=some (.int .u64))(hC:P.cellsOf E=1)(hv:Value.okWide P w r b0 T v)(h:DataW.Trod enc P w base spare held T v d p):
  ∃l:List Int,jc 1 nH w v l/\∀x∈l,0<=x/\x<18446744073709551616:=
 aaN hT hC (by omega) (λn cs y h=>by
  obtain⟨x,rfl,hw⟩:=Tv hE h
  exact⟨x,rfl,rfl,Qj hw⟩) hv h
end
end Go.Proofs.YtlncengggmgdgaaGreat.lx
