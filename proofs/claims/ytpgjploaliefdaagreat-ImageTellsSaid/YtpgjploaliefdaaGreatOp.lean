/- Opening arguments: Raw, []Raw. No conditions. -/
import Derived.Test.YtpgjploaliefdaaGreatG03
import Derived.WalkKit
import Derived.ProofKit
import Derived.OpenShut
import Derived.Lib.SmallJoins
import Derived.Deep.Slices
namespace Go.Proofs.YtpgjploaliefdaaGreat.ob
open Go.ChangeShapes Go.WideShapes Go.ChangeAt Go.RowKit Go.Joins
set_option maxRecDepth 100000
set_option linter.unusedVariables false
set_option linter.unusedSimpArgs false
structure Rw where
 sz:Int
 pt:Int
 sl:Value
 g:Bool
 zs:List Int
def Jv(x:Int):Prop:= -9223372036854775808<=x/\x<9223372036854775808
structure BR(W:World)(r:Rw):Prop where
 sl:Dw W r.sl r.zs
 sz:Jv r.sz
 pt:Jv r.pt
def Qy(l:List Rw)(i:Nat):Rw:=l.getD i ⟨0,0,.slice none 0 0,false,[]⟩
def ZT(W:World)(b off n:Nat)(l:List Rw):Prop:=∀i,i<n->W.cell? ⟨b,off+i*4,none⟩=some (.int .i64 (Qy l i).sz)/\W.cell? ⟨b,off+i*4+1,none⟩=some (.int .i64 (Qy l i).pt)/\W.cell? ⟨b,off+i*4+2,none⟩=some (Qy l i).sl/\W.cell? ⟨b,off+i*4+3,none⟩=some (.bool (Qy l i).g)/\BR W (Qy l i)
def Bf(W:World)(v:Value)(l:List Rw):Prop:=∃(ad:Option Addr)(b off cap:Nat),v=.slice ad l.length cap/\(0<l.length->ad=some ⟨b,off,none⟩/\b<W.heap.size)/\l.length<=cap/\cap<9223372036854775808/\ZT W b off l.length l
theorem zJ{w:World}{a:Addr}{v:Value}(h:w.cell? a=some v):a=⟨a.block,a.off,none⟩:=by
 obtain⟨b,o,s⟩:=a
 cases s with
 |none=>rfl
 |some s=>unfold World.cell? at h;dsimp only at h;split at h<;>simp at h
section
variable {H : Type} {enc : TypeId × Value → H} {w : World} {base : Nat} {spare : Nat → Bool} {held : Bool}
theorem wf_i64{n:Int}(h:(Lit.int .i64 n).wf=true):Jv n:=qL h
theorem small_wf{zs:List Int}(h:∀n∈zs,(Lit.int .u64 n).wf=true):Small zs:=λi=>by
 by_cases e:i<zs.length
 ·have:=wZ (h zs[i] (List.getElem_mem e))
  simpa [List.getD,e]using this
 ·simp[List.getD,List.getElem?_eq_none (Nat.le_of_not_lt e)]
theorem MC{n:Nat}{c:Value}{y:DataW H×List MemPlace}(h:DataW.trod enc Tryz.prog w base spare held n 29 [c]=some y):∃zs,Dw w c zs:=by
 rcases open_ints Tryz.underlying29 Tryz.underlying24 (by kernel_rfl) h with⟨hcs,_⟩|⟨a,len,cap,zs,hcs,_,hl,hm,hz,_,hcell,hwf⟩
 ·simp at hcs
  subst hcs
  exact⟨[],none,0,0,rfl,by decide,λi hi=>by omega,λi=>by simp⟩
 ·simp at hcs
  subst hcs
  refine⟨zs,some a,len,cap,rfl,by unfold maxLen at hm;omega,λi hi=> ?_,small_wf hwf⟩
  have hi2:i<zs.length:=by rw[hz];split<;>omega
  exact⟨a,rfl,World.block_lt_of_cell? _ _ (hcell i hi2),hcell i hi2⟩
theorem F5{n:Nat}{cs:List Value}{y:DataW H×List MemPlace}(h:DataW.trod enc Tryz.prog w base spare held n 83 cs=some y):
  ∃r:Rw,cs=[.int .i64 r.sz,.int .i64 r.pt,r.sl,.bool r.g]/\BR w r:=by
 obtain⟨y0,y1,y2,y3,m,rfl,hl,h0,h1,h2,h3⟩:=trod_struct4 Tryz.underlying83 h
 have hC:Program.cellsOf Tryz.prog 83=4:=by kernel_rfl
 have hi:Program.cellsOf Tryz.prog 3=1:=by kernel_rfl
 have hs:Program.cellsOf Tryz.prog 29=1:=by kernel_rfl
 have hb:Program.cellsOf Tryz.prog 4=1:=by kernel_rfl
 rw[hC]at hl
 match cs,hl with
 |[c0,c1,c2,c3],_=>
  have h0':DataW.trod enc Tryz.prog w base spare held m 3 (([c0,c1,c2,c3].drop 0).take (Program.cellsOf Tryz.prog 3))=some y0:=h0
  have h1':DataW.trod enc Tryz.prog w base spare held m 3 (([c0,c1,c2,c3].drop 1).take (Program.cellsOf Tryz.prog 3))=some y1:=h1
  have h2':DataW.trod enc Tryz.prog w base spare held m 29 (([c0,c1,c2,c3].drop 2).take (Program.cellsOf Tryz.prog 29))=some y2:=h2
  have h3':DataW.trod enc Tryz.prog w base spare held m 4 (([c0,c1,c2,c3].drop 3).take (Program.cellsOf Tryz.prog 4))=some y3:=h3
  rw[hi]at h0' h1'
  rw[hs]at h2'
  rw[hb]at h3'
  simp only[List.drop_zero,List.drop_succ_cons,List.take_succ_cons,List.take_zero]at h0' h1' h2' h3'
  obtain⟨a0,e0,_,w0⟩:=DataW.trod_int Tryz.underlying3 h0'
  obtain⟨a1,e1,_,w1⟩:=DataW.trod_int Tryz.underlying3 h1'
  obtain⟨b3,e3,_⟩:=DataW.trod_bool Tryz.underlying4 h3'
  obtain⟨zs,hz⟩:=MC h2'
  simp at e0 e1 e3
  subst e0 e1 e3
  exact⟨⟨a0,a1,c2,b3,zs⟩,rfl,⟨hz,wf_i64 w0,wf_i64 w1⟩⟩
theorem ae7{r:Reach}{b0:Nat}{v:Value}{d:DataW H}{p:List MemPlace}(hv:Value.okWide Tryz.prog w r b0 83 v)(h:DataW.Trod enc Tryz.prog w base spare held 83 v d p):
  ∃r:Rw,v=PN r.sz r.pt r.sl r.g/\BR w r:=by
 obtain⟨cs,rfl,hsz⟩:=okWide_struct Tryz.underlying83 hv
 obtain⟨fuel,hf⟩:=h
 obtain⟨r,hcs,hok⟩:=F5 hf
 refine⟨r,?_,hok⟩
 unfold PN
 congr 1
 cases cs
 simpa [Value.cells]using hcs
theorem Qz{n:Nat}{p:Nat->Rw->Prop}(h:∀i,i<n->∃x,p i x):∃l:List Rw,l.length=n/\∀i,i<n->p i (Qy l i):=by
 induction n with
 |zero=>exact⟨[],rfl,λi hi=>by omega⟩
 |succ n ih=>
  obtain⟨l,hl,hp⟩:=ih (λi hi=>h i (by omega))
  obtain⟨x,hx⟩:=h n (by omega)
  refine⟨l++[x],by simp[hl],λi hi=> ?_⟩
  by_cases e:i<n
  ·have:=hp i e
   unfold Qy at this⊢
   simpa [List.getD,List.getElem?_append_left (show i<l.length by omega)]using this
  ·obtain rfl:i=n:=by omega
   unfold Qy
   simpa [List.getD,<-hl]using hx
theorem UG{r:Reach}{b0:Nat}{v:Value}{d:DataW H}{p:List MemPlace}(hv:Value.okWide Tryz.prog w r b0 27 v)(h:DataW.Trod enc Tryz.prog w base spare held 27 v d p):
  ∃l:List Rw,Bf w v l:=by
 obtain⟨ad,len,cap,rfl⟩:=okWide_slice Tryz.underlying27 hv
 obtain⟨fuel,hf⟩:=h
 have hC:Program.cellsOf Tryz.prog 83=4:=by kernel_rfl
 rcases Go.Deep.open_slice Tryz.underlying27 hf with⟨hcs,_⟩|⟨a,len',cap',m,n,D,Pl,hcs,_,hl,hm,hmm,_,hx⟩
 ·simp[Value.cells]at hcs
  obtain⟨rfl,rfl,rfl⟩:=hcs
  exact⟨[],none,0,0,0,rfl,λh=>by simp at h,Nat.le_refl _,by decide,λi hi=>by simp at hi⟩
 ·simp[Value.cells]at hcs
  obtain⟨rfl,rfl,rfl⟩:=hcs
  have hml:len<=m:=by rw[hmm];split<;>omega
  have key:∀i,i<len->∃r:Rw,w.cell? ((a.add (i*4)).add 0)=some (.int .i64 r.sz)/\w.cell? ((a.add (i*4)).add 1)=some (.int .i64 r.pt)/\w.cell? ((a.add (i*4)).add 2)=some r.sl/\w.cell? ((a.add (i*4)).add 3)=some (.bool r.g)/\BR w r:=by
   intro i hi
   obtain⟨cs',h1,h2⟩:=hx i (by omega)
   rw[hC]at h1
   obtain⟨_,_,hcell⟩:=World.cells?_some h1
   obtain⟨r,rfl,hok⟩:=F5 h2
   exact⟨r,hcell 0 (by omega),hcell 1 (by omega),hcell 2 (by omega),hcell 3 (by omega),hok⟩
  obtain⟨l,hll,hp⟩:=Qz key
  refine⟨l,some a,a.block,a.off,cap,by rw[hll],λh0=> ?_,by omega,by unfold maxLen at hm;omega,?_⟩
  ·have h1:=(hp 0 (by omega)).1
   rw[Nat.zero_mul]at h1
   have e0:(a.add 0).add 0=a:=by unfold Addr.add;simp
   rw[e0]at h1
   exact⟨by rw[<-zJ h1],World.block_lt_of_cell? _ _ h1⟩
  ·intro i hi
   rw[hll]at hi
   obtain⟨c0,c1,c2,c3,hok⟩:=hp i hi
   have h1:=(hp 0 (by omega)).1
   rw[Nat.zero_mul]at h1
   have e0:(a.add 0).add 0=a:=by unfold Addr.add;simp
   rw[e0]at h1
   have hspot:=zJ h1
   have e:∀j,(a.add (i*4)).add j=⟨a.block,a.off+i*4+j,none⟩:=by
    intro j
    obtain⟨b,o,s⟩:=a
    have hs:s=none:=by simpa using hspot
    subst hs
    unfold Addr.add
    by_cases h1:i*4=0<;>by_cases h2:j=0<;>simp[h1,h2]
   rw[e]at c0 c1 c2 c3
   exact⟨c0,c1,c2,c3,hok⟩
end
end Go.Proofs.YtpgjploaliefdaaGreat.ob
