/- The mutex in the crowd, beside the lone one. No conditions. (under way) -/
import Derived.Test.YtlncengggmgdgaaGreatXd
import Derived.Test.YtlncengggmgdgaaGreatG15
import Derived.Test.YtlncengggmgdgaaGreatG12
set_option linter.unusedVariables false
set_option linter.unusedSimpArgs false
set_option maxRecDepth 100000
namespace Go.Proofs.YtlncengggmgdgaaGreat.par
open Go Go.Conc
open Go.ConcR (rd wr mk DC0)
section
variable {σ : Nat → Nat} {D : Nat → Prop} {T : Tables} {W0 u w : World}
theorem Sit.garbage(h:Sit σ D T W0 u w)(o:Obj):Sit σ D T W0 (u.alloc o) w:=by
 have hsz:(u.alloc o).heap.size=u.heap.size+1:=by
  show(u.heap.push _).size=_
  simp
 have hold:∀r,D r->(u.alloc o).heap[r]? =u.heap[r]? :=λr hr=>by
  have:=h.bound r hr
  show(u.heap.push _)[r]? =_
  rw[Array.getElem?_push,if_neg (by omega)]
 refine⟨⟨λr o' hr ho=>h.wr.obj r o' hr (by rw[<-hold r hr];exact ho),λr hr hle=> ?_,by have:=h.wr.low;omega,λa ha hlt z hz hc=>h.wr.orig a ha hlt z hz ?_,h.wr.os⟩,h.inj,h.glob,λr hr=>by have:=h.bound r hr;omega,by have:=h.gu;omega,h.gw⟩
 ·have:=h.bound r hr;omega
 ·rw[<-hc]
  unfold World.cell?
  rw[hold _ ha]
theorem Sit.both(h:Sit σ D T W0 u w){ad ad':Addr}(ha:AR σ D ad ad'){v:Value}(hc:u.cell? ad=some v)(k:IntKind)(n:Int):Sit σ D T W0 (u.setCell ad (.int k n)) (w.setCell ad' (.int k n)):=by
 have s1:(u.setCell ad (.int k n)).heap.size=u.heap.size:=by simp[World.setCell]
 have s2:(w.setCell ad' (.int k n)).heap.size=w.heap.size:=by simp[World.setCell]
 refine⟨h.wr.set h.inj ha (.int k n) ?_,h.inj,h.glob,λr hr=>by rw[s1];exact h.bound r hr,by rw[s1];exact h.gu,by rw[s2];exact h.gw⟩
 exact rfl
theorem Sit.num(h:Sit σ D T W0 u w){ad ad':Addr}(ha:AR σ D ad ad'){k:IntKind}{n:Int}(hc:u.cell? ad=some (.int k n)):w.cell? ad'=some (.int k n)/\w.frozen? ad'=u.frozen? ad:=by
 obtain⟨hd,rfl⟩:=ha
 unfold World.cell? at hc
 cases ho:u.heap[ad.block]? with
 |none=>rw[ho]at hc;simp at hc
 |some o=>
  obtain⟨o',h1,h2⟩:=h.wr.obj _ o hd ho
  rw[ho]at hc
  cases h2 with
  | @cells c c' hcc e f=>
   dsimp only at hc
   split at hc
   ·cases hc
   ·rename_i hs
    have hs':ad.spot.isSome=false:=by simpa using hs
    have hlt:ad.off<c.size:=(Array.getElem?_eq_some_iff.1 hc).1
    have hlt':ad.off<c'.size:=by rw[<-hcc.1];exact hlt
    have hv:=hcc.2 ad.off _ c'[ad.off] hc (Array.getElem?_eq_getElem hlt')
    have e1:c'[ad.off]=.int k n:=by
     revert hv
     generalize c'[ad.off]=y
     intro hv
     cases hv
     rfl
    refine⟨?_,?_⟩
    ·unfold World.cell?
     dsimp only
     rw[h1]
     dsimp only
     rw[hs',if_neg (by simp),Array.getElem?_eq_getElem hlt',e1]
    ·unfold World.frozen?
     dsimp only
     rw[h1,ho]
  |_=>simp at hc
theorem Sit.acS(h:Sit σ D T W0 u w){r:Nat}(hr:D r):zX u r:=by
 obtain⟨o,ho⟩:∃o,u.heap[r]? =some o:=⟨_,Array.getElem?_eq_getElem (h.bound r hr)⟩
 obtain⟨o',_,h2⟩:=h.wr.obj r _ hr ho
 unfold zX
 cases h2 with
 |cells _ e f=>exact .inl ⟨_,_,_,ho⟩
 |view _ t=>exact .inr (.inl ⟨_,_,ho⟩)
 |number _ l=>exact .inr (.inr ⟨_,ho,.inl ⟨_,_,rfl⟩⟩)
 |_=>exact .inr (.inr ⟨_,ho,.inr rfl⟩)
end
theorem nP(H:Code){i:FuncId}{f:Func}(h:(Tryz.prog).funcs[i]? =some f):(dP H)[i]? =some (lf H (Tryz.prog).toTables i f):=by
 unfold dP
 rw[Array.getElem?_mapIdx,h]
 rfl
theorem Wi(b:Bool)(x y:Int):pr (Tryz.prog).toTables b false (fA x y)=fA x y:=by cases b<;>kernel_rfl
theorem yD(H:Code):(dP H)[201]? =some {Tryz.f201 with body:=some (fA 0 1)}:=by
 rw[nP H Tryz.func201]
 have e:lf H (Tryz.prog).toTables 201 Tryz.f201={Tryz.f201 with body:=some (pr (Tryz.prog).toTables (yg H) false (fA 0 1))}:=rfl
 rw[e,Wi]
theorem rJ(H:Code):(dP H)[202]? =some {Tryz.f202 with body:=some (fA 1 0)}:=by
 rw[nP H Tryz.func202]
 have e:lf H (Tryz.prog).toTables 202 Tryz.f202={Tryz.f202 with body:=some (pr (Tryz.prog).toTables (yg H) false (fA 1 0))}:=rfl
 rw[e,Wi]
def bK(f:FuncId)(kind:CallKind):Frame:={(default:Frame)with fn:=f,kind:=kind}
theorem tq{P:Program}{f:FuncId}{fn:Func}{c:Code}(hf:P.funcs[f]? =some fn)(hb:fn.body=some c)(a:Array Value)(kind:CallKind):Frame.enter P f a kind=(bK f kind).at ⟨a++Array.replicate (fn.ntmps-a.size) undef,[]⟩ [.code c]:=by
 unfold Frame.enter
 simp[hf,hb,bK,Frame.at]
end Go.Proofs.YtlncengggmgdgaaGreat.par
namespace Go.Proofs.YtlncengggmgdgaaGreat.par
open Go Go.Conc
open Go.ConcR (rd wr mk DC0)
theorem jL{O:Nat->Prop}{w w':World}(h:w'.heap.size=w.heap.size):grow O w w'=O:=by
 funext b
 unfold grow
 rw[h]
 exact propext ⟨λx=>x.elim id λy=>by omega,.inl⟩
section
variable {P : Program} {main : Bool} {Env : (Nat → Prop) → World → World → Prop} {Gu : (Nat → Prop) → World → World → Array Event → Prop}
theorem dw.quiet{I:World->Prop}{S:Goroutine->World->Prop}{O:Nat->Prop}(hrefl:∀O w,Env O w w)(hR:∀w w₁,Env O w w₁->I w->I w₁)(hG:∀w,Gu O w w #[]){d:Nat}:
  ∀{n:Nat}{g:Goroutine},dw P main I DC0 S n g->∀{w:World},I w->OT P main Env Gu (λO' d' g w=>O'=O/\d'=d/\I w/\S g w) O d g w:=by
 intro n g h w hw
 have h1:=h w hw
 clear h
 induction n generalizing g w with
 |zero=>exact .stop λw₁ he=>⟨rfl,rfl,hR _ _ he hw,h1 w₁ (hR _ _ he)⟩
 |succ n ih=>
  rcases h1 with hs|⟨hr,hst⟩
  ·exact .stop λw₁ he=>⟨rfl,rfl,hR _ _ he hw,hs w₁ (hR _ _ he)⟩
  ·refine OT.mk hr λw₁ he=> ?_
   have h2:=hst w₁ (hR _ _ he)
   cases hgo:stepG P main g w₁ with
   |go g' w' es=>
    rw[hgo,goes_go]at h2
    obtain⟨⟨e1,e2⟩,h3⟩:=h2
    subst e1 e2
    refine⟨g',w',#[],rfl,hG _,?_⟩
    rw[jL rfl]
    exact ih (hR _ _ he hw) h3
   |_=>rw[hgo]at h2;exact h2.elim
theorem OT.said{I:World->Prop}{S:Goroutine->World->Prop}{O:Nat->Prop}{Fin:(Nat->Prop)->Nat->Goroutine->World->Prop}(hrefl:∀O w,Env O w w)(hR:∀w w₁,Env O w w₁->I w->I w₁)(hG:∀w,Gu O w w #[]){e:Event}(hGe:∀w,Gu O w w #[e]){d:Nat}{g:Goroutine}{w:World}
  (hall:∀w₁,Env O w w₁->I w₁/\M3 P main I e S g w₁) (hS:∀g w,(∀w₁,Env O w w₁->I w₁/\S g w₁)->OT P main Env Gu Fin O (deafBehind d #[e]) g w):OT P main Env Gu Fin O d g w:=by
 refine OT.mk (hall w (hrefl _ _)).2.1 λw₁ he=> ?_
 obtain⟨hi,_,g2,e2,m,hm⟩:=hall w₁ he
 refine⟨g2,w₁,_,e2,hGe _,?_⟩
 rw[jL rfl]
 refine OT.rH (dw.quiet hrefl hR hG hm hi (d:=deafBehind d #[e])) λO'' d'' g w rM=> ?_
 obtain⟨rfl,rfl,_⟩:=rM w (hrefl _ _)
 exact hS g w λw₁ he=>⟨(rM w₁ he).2.2.1,(rM w₁ he).2.2.2⟩
end
section
variable {main : Bool} {Env : (Nat → Prop) → World → World → Prop} {Gu : (Nat → Prop) → World → World → Array Event → Prop} {Fin : (Nat → Prop) → Nat → Goroutine → World → Prop}
variable {σ : Nat → Nat} {D : Nat → Prop} {Tb : Tables} {W0 u : World} {b : Frame} {cs : List Frame} {ad ad' : Addr}
theorem OT.swapped(hE:∀O w w₁,Env O w w₁->pR O w w₁)(hrefl:∀O w,Env O w w)(hG2:∀O w w' es,Vx O w w' es->Gu O w w' es)(ha:AR σ D ad ad'){x y:Int}(hc:u.cell? ad=some (.int .i32 x))(hf:u.frozen? ad=false)(hx:(u.alloc dG).cell? ad=some (.int .i32 x))
  {S:Goroutine->World->Prop} {d:Nat} {g:Goroutine} {w:World} (hall:∀w₁,Env (img σ D) w w₁->Sit σ D Tb W0 u w₁/\MC Tryz.prog main (Sit σ D Tb W0 ((u.alloc dG).setCell ad (.int .i32 y))) ad' x y S g w₁)
  (hS:∀g w,(∀w₁,Env (img σ D) w w₁->Sit σ D Tb W0 ((u.alloc dG).setCell ad (.int .i32 y)) w₁/\S g w₁)->OT Tryz.prog main Env Gu Fin (img σ D) d g w):OT Tryz.prog main Env Gu Fin (img σ D) d g w:=by
 have hG0:∀w,Gu (img σ D) w w #[]:=λw=>hG2 _ _ _ _ ⟨rfl,rfl,rfl,Nat.le_refl _,λ_ _ _=>rfl,λe he=>absurd he (by simp)⟩
 refine OT.mk (hall w (hrefl _ _)).2.1 λw₁ he=> ?_
 obtain⟨hs,_,hstep⟩:=hall w₁ he
 obtain⟨hc',hf'⟩:=hs.num ha hc
 obtain⟨g2,e2,m,hm⟩:=hstep hc' (hf'.trans hf)
 have hsz:(w₁.setCell ad' (.int .i32 y)).heap.size=w₁.heap.size:=by simp[World.setCell]
 have hO:img σ D ad'.block:=⟨ad.block,ha.1,by rw[ha.2]⟩
 refine⟨g2,_,_,e2,hG2 _ _ _ _ ⟨rfl,rfl,rfl,by omega,λb _ hb=>Go.RowKit.Below.heap_setCell w₁ ad' _ b λe=>hb (e▸hO),λe he=> ?_⟩,?_⟩
 ·simp[rd,wr]at he
  rcases he with rfl|rfl<;>exact .inl hO
 ·rw[jL hsz]
  have hs2:Sit σ D Tb W0 ((u.alloc dG).setCell ad (.int .i32 y)) (w₁.setCell ad' (.int .i32 y)):=(hs.garbage dG).both ha hx .i32 y
  have e3:deafBehind d #[rd ad',wr ad']=d:=deafBehind_still (λe he=>by simp[rd,wr]at he;rcases he with rfl|rfl<;>exact⟨by simp,by simp⟩) d
  rw[e3]
  refine OT.rH (dw.quiet hrefl (λw w₁ he hs=>hs.env (hE _ _ _ he)) hG0 hm hs2 (d:=d)) λO'' d g w rM=> ?_
  obtain⟨rfl,rfl,_⟩:=rM w (hrefl _ _)
  exact hS g w λw₁ he=>⟨(rM w₁ he).2.2.1,(rM w₁ he).2.2.2⟩
theorem Sl(hE:∀O w w₁,Env O w w₁->pR O w w₁)(hrefl:∀O w,Env O w w)(hG2:∀O w w' es,Vx O w w' es->Gu O w w' es)(ha:AR σ D ad ad')(hc:u.cell? ad=some (.int .i32 0))(hf:u.frozen? ad=false)(hx:(u.alloc dG).cell? ad=some (.int .i32 0))(hy:((u.alloc dG).setCell ad (.int .i32 1)).cell? ad=some (.int .i32 1))
  {T:Array Value} (hk:b.kind≠ .early) (hT:13<=T.size) (h0:T[0]?.getD undef=.pointer (some ad')) {w:World} (hw:Sit σ D Tb W0 u w)
  (hS:∀g w,(∀w₁,Env (img σ D) w w₁->Sit σ D Tb W0 ((u.alloc dG).setCell ad (.int .i32 1)) w₁/\EU b cs g)->OT Tryz.prog main Env Gu Fin (img σ D) 0 g w):OT Tryz.prog main Env Gu Fin (img σ D) 0 (G (b.at ⟨T,[]⟩ [.code zq]) cs) w:=by
 have hG0:∀w,Gu (img σ D) w w #[]:=λw=>hG2 _ _ _ _ ⟨rfl,rfl,rfl,Nat.le_refl _,λ_ _ _=>rfl,λe he=>absurd he (by simp)⟩
 have hGm:∀(m:Mark),Il (img σ D) (mk m)->∀w,Gu (img σ D) w w #[mk m]:=λm hm w=>hG2 _ _ _ _ ⟨rfl,rfl,rfl,Nat.le_refl _,λ_ _ _=>rfl,λe he=>by
  rw[Array.mem_singleton]at he
  subst he
  rw[jL rfl]
  exact hm⟩
 have hO:img σ D ad'.block:=⟨ad.block,ha.1,by rw[ha.2]⟩
 have hR:∀(v:World)(w w₁:World),Env (img σ D) w w₁->Sit σ D Tb W0 v w->Sit σ D Tb W0 v w₁:=λv w w₁ he hs=>hs.env (hE _ _ _ he)
 have h1:= @Zr main (Sit σ D Tb W0 u) b cs _ T hk ⟨10,RV (I':=Sit σ D Tb W0 ((u.alloc dG).setCell ad (.int .i32 1))) hk (by simpa using hT) (by rw[dn (by omega)];exact h0) λT' t1 t2 t3=>⟨10,V7 hk (λw hs=>⟨_,(hs.num ha hy).1⟩) t1 t2 t3⟩⟩
 refine OT.rH (dw.quiet hrefl (hR u) hG0 h1 hw (d:=0)) λO1 d1 g1 w1 hall=> ?_
 obtain⟨rfl,rfl,_⟩:=hall w1 (hrefl _ _)
 refine OT.said hrefl (hR u) hG0 (hGm .disable trivial) (λw₁ he=>⟨(hall w₁ he).2.2.1,(hall w₁ he).2.2.2⟩) λg2 w2 rM=> ?_
 refine OT.swapped hE hrefl hG2 ha hc hf hx rM λg3 w3 zA=> ?_
 refine OT.said hrefl (hR _) hG0 (hGm .enable trivial) zA λg4 w4 Wj=> ?_
 refine OT.said hrefl (hR _) hG0 (hGm (.acquire ad') hO) Wj λg5 w5 Wn=> ?_
 exact hS g5 w5 Wn
theorem JL(hE:∀O w w₁,Env O w w₁->pR O w w₁)(hrefl:∀O w,Env O w w)(hG2:∀O w w' es,Vx O w w' es->Gu O w w' es)(ha:AR σ D ad ad')(hc:u.cell? ad=some (.int .i32 1))(hf:u.frozen? ad=false)(hx:(u.alloc dG).cell? ad=some (.int .i32 1))
  {T:Array Value} (hb:b.fn=202) (hk:b.kind≠ .early) (hT:21<=T.size) (h0:T[0]?.getD undef=.pointer (some ad')) {w:World} (hw:Sit σ D Tb W0 u w)
  (hS:∀g w,(∀w₁,Env (img σ D) w w₁->Sit σ D Tb W0 ((u.alloc dG).setCell ad (.int .i32 0)) w₁/\EU b cs g)->OT Tryz.prog main Env Gu Fin (img σ D) 0 g w):OT Tryz.prog main Env Gu Fin (img σ D) 0 (G (b.at ⟨T,[]⟩ [.code uG]) cs) w:=by
 have hG0:∀w,Gu (img σ D) w w #[]:=λw=>hG2 _ _ _ _ ⟨rfl,rfl,rfl,Nat.le_refl _,λ_ _ _=>rfl,λe he=>absurd he (by simp)⟩
 have hGm:∀(m:Mark),Il (img σ D) (mk m)->∀w,Gu (img σ D) w w #[mk m]:=λm hm w=>hG2 _ _ _ _ ⟨rfl,rfl,rfl,Nat.le_refl _,λ_ _ _=>rfl,λe he=>by
  rw[Array.mem_singleton]at he
  subst he
  rw[jL rfl]
  exact hm⟩
 have hO:img σ D ad'.block:=⟨ad.block,ha.1,by rw[ha.2]⟩
 have hR:∀(v:World)(w w₁:World),Env (img σ D) w w₁->Sit σ D Tb W0 v w->Sit σ D Tb W0 v w₁:=λv w w₁ he hs=>hs.env (hE _ _ _ he)
 have h1:= @RX main (Sit σ D Tb W0 u) b cs (MC Tryz.prog main (Sit σ D Tb W0 ((u.alloc dG).setCell ad (.int .i32 0))) ad' 1 0 (M3 Tryz.prog main (Sit σ D Tb W0 ((u.alloc dG).setCell ad (.int .i32 0))) (mk .enable) (λg _=>EU b cs g))) T ad' hb hk (λw hs=>(hs.num ha hc).1) hT h0 λT' t1 t2=>⟨10,NH hk t1 t2⟩
 refine OT.rH (dw.quiet hrefl (hR u) hG0 h1 hw (d:=0)) λO1 d1 g1 w1 hall=> ?_
 obtain⟨rfl,rfl,_⟩:=hall w1 (hrefl _ _)
 refine OT.said hrefl (hR u) hG0 (hGm (.releaseMerge ad') hO) (λw₁ he=>⟨(hall w₁ he).2.2.1,(hall w₁ he).2.2.2⟩) λg2 w2 rM=> ?_
 refine OT.said hrefl (hR u) hG0 (hGm .disable trivial) rM λg3 w3 zA=> ?_
 refine OT.swapped hE hrefl hG2 ha hc hf hx zA λg4 w4 Wj=> ?_
 refine OT.said hrefl (hR _) hG0 (hGm .enable trivial) Wj λg5 w5 Wn=> ?_
 exact hS g5 w5 Wn
end
end Go.Proofs.YtlncengggmgdgaaGreat.par
namespace Go.Proofs.YtlncengggmgdgaaGreat.par
open Go Go.Conc
open Go.ConcR (rd wr mk DC0)
section
variable {H : Code} {main : Bool} {Env : (Nat → Prop) → World → World → Prop} {Gu : (Nat → Prop) → World → World → Array Event → Prop} {Fin : (Nat → Prop) → Nat → Goroutine → World → Prop} {W0 : World} {tl tail : List Frame} {R : FuncId → Value → World → Prop}
variable {σ : Nat → Nat} {D : Nat → Prop} {S : FuncId → Prop}
def back(kind:CallKind)(c:Frame):Frame:=if kind=.deferred then EH c else c.finish (.tuple #[])
theorem EZ{P:Program}{main:Bool}{b c:Frame}{cs:List Frame}{fn:Func}{kind:CallKind}{T:Array Value}{todo:List Item}{w:World}(hkd:kind=.normal\/kind=.deferred)(hk:b.kind=kind)(hc:kind=.deferred->nK c)(hf:P.funcs[b.fn]? =some fn)(hr:fn.results= #[]):
  stepG P main (G {b.at ⟨T,[]⟩ todo with mode:=.returning} (c::cs)) w=.go (G (back kind c) cs) w #[]:=by
 rcases hkd with rfl|rfl
 ·exact stepG_leave hk rfl hf (results_none hr _ P w) (events_results_none hr _ _)
 ·have h1:(results fn T).runT P w #[]=(.ok (.tuple #[]) w,#[]):=by
   rw[Sem.runT_eq,results_none hr,events_results_none hr]
  rw[eX (by simp),pO (Q:=P) (fx:={b.at ⟨T,[]⟩ todo with mode:=.returning}) (v:=.tuple #[]) (v1:=w) (es:= #[]) rfl rfl hf h1,jH (fx:={b.at ⟨T,[]⟩ todo with mode:=.returning}) hk (hc rfl)]
  rfl
theorem JM(hE:∀O w w₁,Env O w w₁->pR O w w₁)(hrefl:∀O w,Env O w w)(hG2:∀O w w' es,Vx O w w' es->Gu O w w' es){Tb:Tables}{u2:World}{b c:Frame}{cs:List Frame}{fn:Func}{kind:CallKind}(hkd:kind=.normal\/kind=.deferred)(hk:b.kind=kind)(hc:kind=.deferred->nK c)(hf:(Tryz.prog).funcs[b.fn]? =some fn)(hr:fn.results= #[])
  (hS:∀w,Sit σ D Tb W0 u2 w->OT Tryz.prog main Env Gu Fin (img σ D) 0 (G (back kind c) cs) w) {g:Goroutine} {w:World} (hall:∀w₁,Env (img σ D) w w₁->Sit σ D Tb W0 u2 w₁/\EU b (c::cs) g):OT Tryz.prog main Env Gu Fin (img σ D) 0 g w:=by
 obtain⟨_,T',todo,rfl⟩:=hall w (hrefl _ _)
 refine OT.mk rfl λw₁ he=> ?_
 refine⟨_,w₁,#[],EZ hkd hk hc hf hr,hG2 _ _ _ _ ⟨rfl,rfl,rfl,Nat.le_refl _,λ_ _ _=>rfl,λe he=>absurd he (by simp)⟩,?_⟩
 rw[jL rfl]
 exact hS w₁ (hall w₁ he).1
theorem Wp{w:World}{a:Addr}{v v':Value}(h:w.cell? a=some v):(w.setCell a v').cell? a=some v':=by
 unfold World.cell? at h⊢
 unfold World.setCell
 dsimp only
 rw[Array.getElem?_modify,if_pos rfl]
 cases ho:w.heap[a.block]? with
 |none=>rw[ho]at h;simp at h
 |some o=>
  rw[ho]at h
  cases o<;>first|(simp at h;done)|skip
  rename_i c e f
  dsimp only at h
  split at h
  ·cases h
  ·rename_i hs
   have hlt:=(Array.getElem?_eq_some_iff.1 h).1
   simp[hs,Array.getElem?_setIfInBounds,hlt]
theorem zB{P:Program}{tl:List Frame}{R:FuncId->Value->World->Prop}{s0:LS}{b c:Frame}{T:Array Value}{todo:List Item}{cs:List Frame}{u:World}{fn:Func}{kind:CallKind}(hkd:kind=.normal\/kind=.deferred)(hk:b.kind=kind)(hc:kind=.deferred->nK c)(hf:P.funcs[b.fn]? =some fn)(hr:fn.results= #[])
  (h:bf P tl R s0 {b.at ⟨T,[]⟩ todo with mode:=.returning} (c::cs) u):Relation.TransGen (mV P tl) (back kind c,cs,u) s0:=by
 have hn:¬gJ {b.at ⟨T,[]⟩ todo with mode:=.returning} (c::cs):=λx=>by cases x.1
 have hs:∀τ,stepG P true (G {b.at ⟨T,[]⟩ todo with mode:=.returning} ((c::cs)++tl)) (tp u τ)=.go (G (back kind c) (cs++tl)) (tp u τ) #[]:=λτ=>EZ hkd hk hc hf hr
 exact h.desc.elim (λe=>e▸ .single (lS hn (Nat.le_refl _) hs)) λx=>.trans (.single (lS hn (Nat.le_refl _) hs)) x
theorem PS{a a':Array Value}(h:dI σ D a a')(n:Nat):dI σ D (a++Array.replicate (n-a.size) undef) (a'++Array.replicate (n-a'.size) undef):=by
 rw[<-h.1]
 refine dI.append h (mJ λx hx=> ?_)
 obtain⟨_,rfl⟩:=Array.mem_replicate.1 hx
 rfl
theorem wW(a:Array Value)(n:Nat):n<=(a++Array.replicate (n-a.size) undef).size:=by
 rw[Array.size_append,Array.size_replicate]
 omega
theorem tu{a a':Array Value}(h:dI σ D a a')(h0:0<a.size){ad:Addr}(hp:a.getD 0 undef=.pointer (some ad)):∃ad',AR σ D ad ad'/\a'[0]?.getD undef=.pointer (some ad'):=by
 have h0':0<a'.size:=h.1▸h0
 have hv:=h.2 0 a[0] a'[0] (Array.getElem?_eq_getElem h0) (Array.getElem?_eq_getElem h0')
 have e:a[0]=.pointer (some ad):=by rw[<-hp];simp[h0]
 rw[Array.getElem?_eq_getElem h0',Option.getD_some]
 rw[e]at hv
 revert hv
 generalize a'[0]=y
 intro hv
 cases hv with
 |ptr ha=>exact⟨_,ha,rfl⟩
theorem CG(kind:CallKind)(c:Frame):(back kind c).roundOf=c.roundOf:=by
 unfold back
 split
 ·exact rD c
 ·exact eP c _
theorem JO{T:Tables}{F' F:Array Func}{kind:CallKind}{fr' fr:Frame}(h:jf σ D T S F' F fr' fr):jf σ D T S F' F (back kind fr') (back kind fr):=by
 unfold back
 split
 ·exact yh h
 ·exact gB h (.undef _ rfl)
theorem tC{kind:CallKind}(hkd:kind=.normal\/kind=.deferred):kind≠ .early:=by
 rcases hkd with rfl|rfl<;>simp
theorem E5(hE:∀O w w₁,Env O w w₁->pR O w w₁)(hrefl:∀O w,Env O w w)(hG2:∀O w w' es,Vx O w w' es->Gu O w w' es){s:LS}{fr:Frame}{cs:List Frame}{a a':Array Value}{w:World}{kind:CallKind}(hkd:kind=.normal\/kind=.deferred)
  (hlt:LT (ah H) tl R (Frame.enter (ah H) 201 a kind) (s.1::s.2.1) s.2.2) (ha:dI σ D a a') (hr:Rel (Tryz.prog).toTables (dP H) (Tryz.prog).funcs S W0 σ D s fr cs w)
  (hnext:∀s2 jA cs2 w2,Relation.TransGen (mV (ah H) tl) s2 (Frame.enter (ah H) 201 a kind,s.1::s.2.1,s.2.2)->Rel (Tryz.prog).toTables (dP H) (Tryz.prog).funcs S W0 σ D s2 jA cs2 w2->OT Tryz.prog main Env Gu Fin (img σ D) 0 (G jA (cs2++tail)) w2):
  OT Tryz.prog main Env Gu Fin (img σ D) 0 (G (Frame.enter Tryz.prog 201 a' kind) (fr::(cs++tail))) w:=by
 have c0:bf (ah H) tl R (Frame.enter (ah H) 201 a kind,s.1::s.2.1,s.2.2) (Frame.enter (ah H) 201 a kind) (s.1::s.2.1) s.2.2:=⟨hlt,.inl rfl⟩
 generalize(Frame.enter (ah H) 201 a kind,s.1::s.2.1,s.2.2)=s0 at c0 hnext
 rw[tq (P:=ah H) (c:=fA 0 1) (yD H) rfl a kind]at c0
 rw[tq Tryz.func201 (show Tryz.f201.body=some zq by kernel_rfl) a' kind]
 have hv:=PS ha 13
 have z1:=wW a 13
 have z2:=wW a' 13
 change bf _ _ _ _ ((bK 201 kind).at ⟨a++Array.replicate (13-a.size) undef,[]⟩ [.code (fA 0 1)]) _ _ at c0
 change OT _ _ _ _ _ _ _ (G ((bK 201 kind).at ⟨a'++Array.replicate (13-a'.size) undef,[]⟩ [.code zq]) _) _
 generalize a++Array.replicate (13-a.size) undef=T1 at hv z1 c0
 generalize a'++Array.replicate (13-a'.size) undef=T2 at hv z2⊢
 obtain⟨ad,h1,h2,h3,T',c1⟩:=Jw (.inl rfl) (tC hkd) (by omega) (λad hp=>by
  obtain⟨ad',hA,_⟩:=tu hv (by omega) hp
  exact hr.sit.acS hA.1) c0
 obtain⟨ad',hA,hp'⟩:=tu hv (by omega) h1
 have c2:=zB (P:=ah H) (b:=bK 201 kind) hkd rfl (λ_=>(jI hr.fr).1) (yD H) rfl c1
 have hx:(s.2.2.alloc dG).cell? ad=some (.int .i32 0):=by
  rw[<-h2]
  have:=hr.sit.bound _ hA.1
  unfold World.cell?
  rw[show(s.2.2.alloc dG).heap[ad.block]? =s.2.2.heap[ad.block]? from by show(s.2.2.heap.push _)[ad.block]? =_;rw[Array.getElem?_push,if_neg (by omega)]]
 have hy:((s.2.2.alloc dG).setCell ad (.int .i32 1)).cell? ad=some (.int .i32 1):=Wp hx
 refine Sl hE hrefl hG2 hA h2 h3 hx hy (tC hkd) z2 hp' hr.sit λg w2 hall=> ?_
 refine JM hE hrefl hG2 (b:=bK 201 kind) hkd rfl (λ_=>(jI hr.fr).2) Tryz.func201 rfl (λw3 hs=> ?_) hall
 exact hnext _ _ _ _ c2 ⟨hs,JO hr.fr,hr.cs,hr.bot.top (CG _ _)⟩
theorem zC(hE:∀O w w₁,Env O w w₁->pR O w w₁)(hrefl:∀O w,Env O w w)(hG2:∀O w w' es,Vx O w w' es->Gu O w w' es){s:LS}{fr:Frame}{cs:List Frame}{a a':Array Value}{w:World}{kind:CallKind}(hkd:kind=.normal\/kind=.deferred)
  (hlt:LT (ah H) tl R (Frame.enter (ah H) 202 a kind) (s.1::s.2.1) s.2.2) (ha:dI σ D a a') (hr:Rel (Tryz.prog).toTables (dP H) (Tryz.prog).funcs S W0 σ D s fr cs w)
  (hnext:∀s2 jA cs2 w2,Relation.TransGen (mV (ah H) tl) s2 (Frame.enter (ah H) 202 a kind,s.1::s.2.1,s.2.2)->Rel (Tryz.prog).toTables (dP H) (Tryz.prog).funcs S W0 σ D s2 jA cs2 w2->OT Tryz.prog main Env Gu Fin (img σ D) 0 (G jA (cs2++tail)) w2):
  OT Tryz.prog main Env Gu Fin (img σ D) 0 (G (Frame.enter Tryz.prog 202 a' kind) (fr::(cs++tail))) w:=by
 have c0:bf (ah H) tl R (Frame.enter (ah H) 202 a kind,s.1::s.2.1,s.2.2) (Frame.enter (ah H) 202 a kind) (s.1::s.2.1) s.2.2:=⟨hlt,.inl rfl⟩
 generalize(Frame.enter (ah H) 202 a kind,s.1::s.2.1,s.2.2)=s0 at c0 hnext
 rw[tq (P:=ah H) (c:=fA 1 0) (rJ H) rfl a kind]at c0
 rw[tq Tryz.func202 (show Tryz.f202.body=some uG by kernel_rfl) a' kind]
 have hv:=PS ha 21
 have z1:=wW a 21
 have z2:=wW a' 21
 change bf _ _ _ _ ((bK 202 kind).at ⟨a++Array.replicate (21-a.size) undef,[]⟩ [.code (fA 1 0)]) _ _ at c0
 change OT _ _ _ _ _ _ _ (G ((bK 202 kind).at ⟨a'++Array.replicate (21-a'.size) undef,[]⟩ [.code uG]) _) _
 generalize a++Array.replicate (21-a.size) undef=T1 at hv z1 c0
 generalize a'++Array.replicate (21-a'.size) undef=T2 at hv z2⊢
 obtain⟨ad,h1,h2,h3,T',c1⟩:=Jw (.inr rfl) (tC hkd) (by omega) (λad hp=>by
  obtain⟨ad',hA,_⟩:=tu hv (by omega) hp
  exact hr.sit.acS hA.1) c0
 obtain⟨ad',hA,hp'⟩:=tu hv (by omega) h1
 have c2:=zB (P:=ah H) (b:=bK 202 kind) hkd rfl (λ_=>(jI hr.fr).1) (rJ H) rfl c1
 have hx:(s.2.2.alloc dG).cell? ad=some (.int .i32 1):=by
  rw[<-h2]
  have:=hr.sit.bound _ hA.1
  unfold World.cell?
  rw[show(s.2.2.alloc dG).heap[ad.block]? =s.2.2.heap[ad.block]? from by show(s.2.2.heap.push _)[ad.block]? =_;rw[Array.getElem?_push,if_neg (by omega)]]
 refine JL hE hrefl hG2 hA h2 h3 hx rfl (tC hkd) z2 hp' hr.sit λg w2 hall=> ?_
 refine JM hE hrefl hG2 (b:=bK 202 kind) hkd rfl (λ_=>(jI hr.fr).2) Tryz.func202 rfl (λw3 hs=> ?_) hall
 exact hnext _ _ _ _ c2 ⟨hs,JO hr.fr,hr.cs,hr.bot.top (CG _ _)⟩
end
end Go.Proofs.YtlncengggmgdgaaGreat.par
namespace Go.Proofs.YtlncengggmgdgaaGreat.par
open Go Go.Conc
open Go.ConcR (rd wr mk DC0)
section
variable {σ : Nat → Nat} {D : Nat → Prop} {T : Tables} {Sp : FuncId → Prop} {F' F : Array Func} {W0 u w : World}
theorem Zv{fr' fr:Frame}(h:Sit σ D T W0 u w)(hy:Sync u w)(hf:jf σ D T Sp F' F fr' fr){v:Value}(hl:fr'.leaving ⟨T,F'⟩ u (.returned v))(main:Bool)(c:Frame)(tail:List Frame):
  ∃v' σ1 D1 u1 w1 es,stepG ⟨T,F⟩ main (G fr (c::tail)) w=.go (G (c.finish v') tail) w1 es/\VR σ1 D1 v v'/\Moved T W0 σ D u w σ1 D1 u1 w1 es:=by
 obtain⟨hm,hd,hk,fn,hfn,hrun⟩:=hl
 obtain⟨f',f,hf1,hf2,hres⟩:=hf.known
 have hfe:=hf.fn
 have hmode:=hf.mode
 have hdf:=hf.defers
 have hkd:=hf.kind
 rw[hm]at hmode
 rw[hd]at hdf
 generalize hy2:fr.mode=y at hmode
 generalize hk2:fr.defers=m at hdf
 cases hmode
 cases hdf
 obtain rfl:f'=fn:=Option.some.inj (hf1.symm.trans (by rw[<-hfe];exact hfn))
 have hs:∀σ1 D1,Up σ D σ1 D1->zV σ1 D1->Glob σ1 D1 T->ay σ1 D1 (⟨T,F'⟩:Program) (⟨T,F⟩:Program) (VR σ1 D1) (results f' fr'.tmps) (results f fr.tmps):=λσ1 D1 hu hi hg=>uK hres (dI.up hu hf.tmps)
 have hrun2:=pJ (P':=⟨T,F'⟩) (P:=⟨T,F⟩) (R:=λσ1 D1=>VR σ1 D1) rfl rfl h hy hs
 rw[Sem.runT_eq,hrun]at hrun2
 rcases hx2:(results f fr.tmps).runT (⟨T,F⟩:Program) w #[]with⟨r',es⟩
 rw[hx2]at hrun2
 rcases r' with⟨n',w1⟩|⟨h1,w1⟩
 ·obtain⟨σ1,D1,hmv,hv⟩:=hrun2
  refine⟨n',σ1,D1,u,w1,seen (⟨T,F⟩:Program) fr.fn es++ #[],?_,hv,hmv.sub λe he=>mem_seen (by simpa using he)⟩
  rw[eX (by rw[hy2];exact FrameMode.noConfusion),pO hk2 hy2 hf2 hx2,kJ (hkd.symm.trans hk)]
  rfl
 ·exact hrun2.elim
theorem Gw{fr' fr:Frame}(h:Sit σ D T W0 u w)(hf:jf σ D T Sp F' F fr' fr){v:Value}(τ τ':Nat->Question->Nat)(hl:fr'.leaving ⟨T,F'⟩ (tp u τ) (.returned v)):fr'.leaving ⟨T,F'⟩ (tp u τ') (.returned v):=by
 obtain⟨hm,hd,hk,fn,hfn,hrun⟩:=hl
 refine⟨hm,hd,hk,fn,hfn,?_⟩
 obtain⟨f',f,hf1,hf2,hres⟩:=hf.known
 rw[<-hf.fn]at hf1
 obtain rfl:=Option.some.inj (hfn.symm.trans hf1)
 let τw:Nat->Question->Nat:=λj=>τ (j-w.drawn+u.drawn)
 have hy:Sync (tp u τ) (tp w τw):=λi=>by
  show τ (u.drawn+i)=τ (w.drawn+i-w.drawn+u.drawn)
  rw[show w.drawn+i-w.drawn+u.drawn=u.drawn+i by omega]
 have hs:∀σ1 D1,Up σ D σ1 D1->zV σ1 D1->Glob σ1 D1 T->ay σ1 D1 (⟨T,F'⟩:Program) (⟨T,F⟩:Program) (VR σ1 D1) (results fn fr'.tmps) (results f fr.tmps):=λσ1 D1 hu hi hg=>uK hres (dI.up hu hf.tmps)
 have h2:=jT (P':=⟨T,F'⟩) (P:=⟨T,F⟩) (R:=λσ1 D1=>VR σ1 D1) rfl rfl (h.tape τ τw) hy hs (Sem.runT_eq _ _ _ _) τ' (λj h1 h2=>by
  rw[hrun]at h2
  exact absurd h2 (Nat.not_lt.2 h1))
 rw[hrun]at h2
 have h3:=congrArg Prod.fst h2
 rw[Sem.runT_eq]at h3
 exact h3
end
namespace gW
variable {A : gW} {Stop : (Nat → Prop) → Nat → Goroutine → World → Prop}
theorem acU(hb1:A.B1<=A.Wz.heap.size){X:Nat->Prop}{fb B:Nat}{V:Obj}(hX:X fb)(hfb:fb<B)(hB1:A.Wz.heap.size<=B)(UD:A.Wg<B)(UE:A.wB<B):
  ∀{O:Nat->Prop}{d:Nat}{g:Goroutine}{w:World},A.LW Stop O d g w->(∀b,O b->B<=b)->B<=w.heap.size->A.Live w->w.heap[fb]? =some V->
   A.LW (λO' d g w'=>(∀b,X b->O' b)/\A.Live w'/\w'.heap[fb]? =some V/\∃O1,Stop O1 d g w') (λb=>O b\/X b) d g w:=by
 have hE:∀{O:Nat->Prop}{w w₁:World},A.Env (λb=>O b\/X b) w w₁->A.Env O w w₁:=λ{O w w₁}he=>⟨⟨he.env.tape,he.env.os,he.env.output,he.env.size,λb hb=>he.env.own b (.inl hb)⟩,he.rd,he.live⟩
 intro O d g w h
 induction h with
 |stop h=>exactλhO hB hl hv=>.stop λw₁ he=>⟨λb hb=>.inr hb,he.live hl,(he.env.own fb (.inr hX)).trans hv,_,h w₁ (hE he)⟩
 | @step O d g w hr g' w' es h hg _ ih=>
  intro hO hB hl hv
  refine OT.mk hr λw₁ he=> ?_
  have hg1:=hg w₁ (hE he)
  have ai5:B<=w₁.heap.size:=Nat.le_trans hB he.env.size
  have hkept:∀b,b<B->(w' w₁).heap[b]? =w₁.heap[b]? :=λb hb=>hg1.kept b (by omega) λho=>by have:=hO b ho;omega
  have hl1:A.Live w₁:=he.live hl
  have hgr:grow (λb=>O b\/X b) w₁ (w' w₁)=λb=>grow O w₁ (w' w₁) b\/X b:=by
   funext b
   unfold grow
   exact propext ⟨λh=>h.elim (λh=>h.elim (λh=>.inl (.inl h)) .inr) λh=>.inl (.inr h),λh=>h.elim (λh=>h.elim (λh=>.inl (.inl h)) .inr) λh=>.inl (.inr h)⟩
  refine⟨_,_,_,h w₁ (hE he),⟨hg1.tape,hg1.os,hg1.output,hg1.size,λb hb hn=>hg1.kept b hb λho=>hn (.inl ho),λe he'=> ?_⟩,?_⟩
  ·rw[hgr]
   exact(hg1.evs e he').imp (λx=>x.mono λb hb=>.inl hb) id
  ·rw[hgr]
   refine ih w₁ (hE he) (λb hb=>hb.elim (hO b) λh=>by omega) (Nat.le_trans ai5 hg1.size) ?_ ?_
   ·obtain⟨⟨⟨st,sm,q1⟩,v,q2⟩,q3⟩:=hl1
    exact⟨⟨⟨st,sm,(hkept _ UD).trans q1⟩,v,(hkept _ UE).trans q2⟩,⟨hg1.tape.trans q3.tape,hg1.os.trans q3.os,hg1.output.trans q3.output,Nat.le_trans q3.size hg1.size,λb hb=>(hkept b (by have:=hb.1;omega)).trans (q3.heap b hb)⟩⟩
   ·exact(hkept fb hfb).trans ((he.env.own fb (.inr hX)).trans hv)
end gW
theorem Sm(H:Code):(dP H)[136]? =some {Tryz.f136 with body:=some (.refuse "dead")}:=by
 rw[nP H Tryz.func136]
 have e:lf H (Tryz.prog).toTables 136 Tryz.f136={Tryz.f136 with body:=some (pr (Tryz.prog).toTables (yg H) false (.refuse "dead"))}:=rfl
 rw[e]
 unfold pr
 rfl
theorem uT(H:Code):gq ⟨(Tryz.prog).toTables,dP H⟩ 136:=⟨⟨_,"dead",Sm H,rfl,by kernel_rfl⟩⟩
theorem yE(H:Code):(dP H)[122]? =some {Tryz.f122 with body:=some (pr (Tryz.prog).toTables (yg H) false H)}:=by
 rw[nP H Tryz.func122]
 rfl
abbrev Hw:Code:=.refuse "pruned"
def D0:Nat->Prop:=λ_=>False
theorem Wq{T:Tables}{u w:World}(hu:T.globals.size<=u.heap.size)(hw:T.globals.size<=w.heap.size)(ho:u.os=w.os):Sit id D0 T E0 u w:=
 ⟨⟨λ_ _ h=>h.elim,λ_ h=>h.elim,Nat.zero_le _,λ_ h=>h.elim,ho⟩,λ_ _ h=>h.elim,λ_ h=>h.elim,λ_ h=>h.elim,hu,hw⟩
theorem Ws:img id D0=λ_=>False:=by
 funext b
 exact propext ⟨λ⟨_,h,_⟩=>h,λh=>h.elim⟩
section
variable {main : Bool} {Env : (Nat → Prop) → World → World → Prop} {Gu : (Nat → Prop) → World → World → Array Event → Prop} {W0 : World}
theorem acV:¬99999999<(Tryz.prog).funcs.size:=by
 have h:(decide ((Tryz.prog).funcs.size<=99999999))=true:=by kernel_rfl
 exact Nat.not_lt.2 (of_decide_eq_true h)
theorem Sr(hE:∀O w w₁,Env O w w₁->pR O w w₁)(hrefl:∀O w,Env O w w)(hG2:∀O w w' es,Vx O w w' es->Gu O w w' es){f:FuncId}{args:Array Value}{V:Bool}(hns:¬SpW f)(hboth:Both (dP Hw) (Tryz.prog).funcs f)(hargs:∀σ D,dI σ D args args)
  (hone:∀u:World,(Tryz.prog).toTables.globals.size<=u.heap.size->Calls (ah Hw) f args u (λe _=>e=.returned (.bool V))) (fr:Frame) (cs':List Frame) (hmode:fr.mode=.run) {w:World} (hw:(Tryz.prog).toTables.globals.size<=w.heap.size):
  OT Tryz.prog main Env Gu (λ_ d g _=>d=0/\g=G (fr.finish (.bool V)) cs') (λ_=>False) 0 (G (Frame.enter Tryz.prog f args .normal) (fr::cs')) w:=by
 have hsit:=Wq (T:=(Tryz.prog).toTables) hw hw rfl
 have hfr:jf id D0 (Tryz.prog).toTables SpW (dP Hw) (Tryz.prog).funcs (Frame.enter (ah Hw) f args .normal) (Frame.enter Tryz.prog f args .normal):=l9 (EF rfl) hboth hns (hargs _ _) (.inl rfl) rfl rfl
 have hlt:LT (ah Hw) [c0 136] (λg v _=>g=f/\v=.bool V) (Frame.enter (ah Hw) f args .normal) [] w:=
  zk (R:=λ_ v _=>v=.bool V) zp (wu Hw) (uT Hw) ⟨id,D0,E0,_,[],w,hsit,l9 (P':=ah Hw) (P:=ah Hw) (wu Hw) (by obtain⟨g',_,c',_,a1,_,a3,_⟩:=hboth;exact⟨g',g',c',c',a1,a1,a3,a3⟩) (λh=>h) (hargs _ _) (.inl rfl) rfl rfl,.nil,rfl⟩ λτ=>(hone (tp w τ) hw).mono λe _ he=>⟨_,he,rfl⟩
 rw[<-Ws]
 refine transfer ⟨BN _,λc r e ch h=>by cases e;rw[hmode]at h;cases h⟩ (λh=>(acC h).elim) (λ_ _=>True) (λ_ _ _ _ _ _=>trivial) (T:=(Tryz.prog).toTables) (F':=dP Hw) (F:=(Tryz.prog).funcs) (Sp:=SpW) (W0:=E0) (tl:=[c0 136]) (tail:=fr::cs') (R:=λg v _=>g=f/\v=.bool V) zp (EF rfl) hE hrefl (λO w w' es h _=>hG2 O w w' es h) (Frame.enter (ah Hw) f args .normal,[],w) ?_ ?_ _ (.inl rfl) hlt id D0 _ [] w trivial ⟨hsit,hfr,.nil,rfl⟩
 ·intro σ D s jA cs w2 _ _ hlt hr hend
  obtain⟨fr',cs0,u⟩:=s
  have hcs:=hr.cs
  dsimp only at hlt hend hcs
  cases hlt with
  |step hn=>exact absurd hend hn
  | @stop _ _ v τ hl hv=>
   obtain⟨acI,rfl⟩:=hv
   cases hcs
   refine OT.mk rfl λw₁ he=> ?_
   have hs1:=hr.sit.env (hE _ _ _ he)
   let τ':Nat->Question->Nat:=λj=>w₁.tape (j-u.drawn+w₁.drawn)
   have hy:Sync (tp u τ') w₁:=λi=>by
    show w₁.tape (u.drawn+i-u.drawn+w₁.drawn)=w₁.tape (w₁.drawn+i)
    rw[show u.drawn+i-u.drawn+w₁.drawn=w₁.drawn+i by omega]
   have hs2:Sit σ D (Tryz.prog).toTables E0 (tp u τ') w₁:=hs1.tape τ' w₁.tape
   obtain⟨v',σ1,D1,u1,w1,es,h1,h2,h3⟩:=Zv hs2 hy hr.fr (Gw hs1 hr.fr τ τ' hl) main fr cs'
   refine⟨_,w1,es,h1,hG2 _ _ _ _ (h3.gu hs2),?_⟩
   rw[deafBehind_still (oG h3.evs)]
   cases h2
   exact .stop λ_ _=>⟨rfl,rfl⟩
 ·intro σ D f' a a' kind s jA cs w2 _ _ hlt hr hnext
  have hsp:=hr.sp
  unfold SpW Sp special at hsp
  simp only[List.mem_cons,List.not_mem_nil,or_false,or_assoc]at hsp
  rcases hsp with rfl|rfl|rfl|rfl
  ·exfalso
   have c0:bf (ah Hw) [c0 136] (λg v _=>g=f/\v=.bool V) (Frame.enter (ah Hw) 122 a kind,s.1::s.2.1,s.2.2) (Frame.enter (ah Hw) 122 a kind) (s.1::s.2.1) s.2.2:=⟨hlt,.inl rfl⟩
   generalize(Frame.enter (ah Hw) 122 a kind,s.1::s.2.1,s.2.2)=s0 at c0
   rw[tq (P:=ah Hw) (c:=.refuse "pruned") (yE Hw) rfl a kind]at c0
   exact nN c0
  ·exact E5 hE hrefl hG2 hr.kinds hlt hr.args hr.rel λs2 jA cs2 w2 hd hr2=>hnext σ D s2 jA cs2 w2 trivial hd hr2
  ·exact zC hE hrefl hG2 hr.kinds hlt hr.args hr.rel λs2 jA cs2 w2 hd hr2=>hnext σ D s2 jA cs2 w2 trivial hd hr2
  ·obtain⟨g',g,_,_,_,h2,_⟩:=hr.both
   exact absurd (Array.getElem?_eq_some_iff.1 h2).1 acV
end
theorem gW.NQ{A:gW}(hP:A.P=Tryz.prog)(hb1:A.B1<=A.Wz.heap.size)(hgl:(Tryz.prog).toTables.globals.size<=A.Wz.heap.size){c:Int×Int×Int}{s:ByteArray}{V:Bool}{k:Int}{fb:Nat}
  (hone:∀u:World,(Tryz.prog).toTables.globals.size<=u.heap.size->Calls (ah Hw) 138 #[.agg #[.int .i64 c.1,.int .i64 c.2.1,.int .i64 c.2.2],.string s] u (λe _=>e=.returned (.bool V)))
  (fr:Frame) (cs':List Frame) (hmode:fr.mode=.run) (O:Nat->Prop) (w:World) (hO:O fb) (hl:A.Live w) (hv:w.heap[fb]? =some (.cells #[.int .i64 k] 3)):
  A.LW (λO' d g w=>d=0/\(∀b,O b->O' b)/\A.Live w/\w.heap[fb]? =some (.cells #[.int .i64 k] 3)/\g=G (fr.finish (.bool V)) cs') O 0
   (G (Frame.enter Tryz.prog 138 #[.agg #[.int .i64 c.1,.int .i64 c.2.1,.int .i64 c.2.2],.string s] .normal) (fr::cs')) w:=by
 have hw:(Tryz.prog).toTables.globals.size<=w.heap.size:=Nat.le_trans hgl hl.2.size
 have h1:=Sr (main:=false) (Env:=A.Env) (Gu:=Gn A.Rd A.Sh False) (λ_ _ _ h=>h.env) (dO.refl Aj) (λ_ _ _ _ h=>⟨h.tape,h.os,h.output,h.size,h.kept,λe he=>.inl (h.evs e he)⟩) (f:=138)
  (by unfold SpW Sp special;decide) ⟨_,_,_,_,nP Hw Tryz.func138,Tryz.func138,rfl,rfl⟩ (λσ D=>⟨rfl,λi x y hx hy=>by
   rw[hx]at hy;cases hy
   have hm:=Array.mem_of_getElem? hx
   simp only[List.mem_toArray,List.mem_cons,List.not_mem_nil,or_false]at hm
   rcases hm with rfl|rfl
   ·exact .agg rfl λj x y hx hy=>by
     rw[hx]at hy;cases hy
     have hm:=Array.mem_of_getElem? hx
     simp only[List.mem_toArray,List.mem_cons,List.not_mem_nil,or_false]at hm
     rcases hm with rfl|rfl|rfl<;>exact .int _ _
   ·exact .string _⟩) hone fr cs' hmode hw
 rw[<-hP]at h1
 have UD:A.Wg<w.heap.size:=by obtain⟨⟨⟨st,sm,q⟩,_⟩,_⟩:=hl;exact(Array.getElem?_eq_some_iff.1 (show w.heap[A.Wg]? =_ from q)).1
 have UE:A.wB<w.heap.size:=by obtain⟨⟨_,v,q⟩,_⟩:=hl;exact(Array.getElem?_eq_some_iff.1 (show w.heap[A.wB]? =_ from q)).1
 have h2:=A.acU hb1 (X:=O) (fb:=fb) (B:=w.heap.size) hO (Array.getElem?_eq_some_iff.1 hv).1 hl.2.size UD UE h1 (λ_ h=>h.elim) (Nat.le_refl _) hl hv
 rw[hP]at h2
 have e:(λb=>False\/O b)=O:=by funext b;exact propext ⟨λh=>h.elim False.elim id,.inr⟩
 rw[e]at h2
 exact OT.weaken (λO' d g w⟨a,b,c,O1,x,y⟩=>⟨x,a,b,c,y⟩) h2
end Go.Proofs.YtlncengggmgdgaaGreat.par
namespace Go.Proofs.YtlncengggmgdgaaGreat.par
open Go Go.Conc Go.RowKit Go.Conc.Lib Go.ConcR.Gen Go.ConcN.Gen
open Go.ConcR (stA smA WgAt KK rd wr mk DC0)
section
variable {P : Program} {main : Bool} {U : Nat → Prop} {Stop : (Nat → Prop) → Nat → Goroutine → World → Prop}
abbrev Gx(U:Nat->Prop):(Nat->Prop)->World->World->Array Event->Prop:=λO w w' es=>Gu1 O w w' es/\Av U es
theorem CJ(O:Nat->Prop)(w:World):Gx U O w w #[]:=⟨⟨rfl,rfl,rfl,Nat.le_refl _,λ_ _ _=>rfl,λe he=>absurd he (by simp)⟩,λe he=>absurd he (by simp)⟩
theorem OT.ctl{O:Nat->Prop}{g g':Goroutine}{w:World}(hr:g.status=.running)(h:∀w,stepG P main g w=.go g' w #[])(hn:OT P main qJ (Gx U) Stop O 0 g' w):OT P main qJ (Gx U) Stop O 0 g w:=by
 refine OT.mk hr λw₁ he=>⟨g',w₁,#[],h w₁,CJ O w₁,?_⟩
 rw[jL rfl]
 exact OT.rely (dO.trans Lu) hn he
theorem OT.new{O:Nat->Prop}{g:Goroutine}{w:World}(hr:g.status=.running)(g':Nat->Goroutine)(o:Obj)(h:∀w,stepG P main g w=.go (g' w.heap.size) (w.alloc o) #[])(hn:∀w₁,qJ O w w₁->OT P main qJ (Gx U) Stop (grow O w₁ (w₁.alloc o)) 0 (g' w.heap.size) (w₁.alloc o)):OT P main qJ (Gx U) Stop O 0 g w:=by
 refine OT.mk hr λw₁ he=> ?_
 have hh:w₁.heap=w.heap:=he.live
 refine⟨_,_,_,h w₁,⟨⟨rfl,rfl,rfl,?_,λb hb _=> ?_,λe he=>absurd he (by simp)⟩,λe he=>absurd he (by simp)⟩,?_⟩
 ·show w₁.heap.size<=(w₁.heap.push _).size
  simp
 ·show(w₁.heap.push _)[b]? =_
  rw[Array.getElem?_push,if_neg (by omega)]
 ·rw[hh]
  exact hn w₁ he
end
structure Made(H:Array Obj)(W w:World):Prop where
 heap:w.heap=H
 tape:w.tape=W.tape
 os:w.os=W.os
 output:w.output=W.output
theorem Made.env{H:Array Obj}{W w w₁:World}{O:Nat->Prop}(h:Made H W w)(he:qJ O w w₁):Made H W w₁:=⟨Eq.trans he.live h.heap,he.env.tape.trans h.tape,he.env.os.trans h.os,he.env.output.trans h.output⟩
theorem Made.alloc{H:Array Obj}{W w:World}(h:Made H W w)(o:Obj):Made (H.push o) W (w.alloc o):=⟨by show w.heap.push o=_;rw[h.heap],h.tape,h.os,h.output⟩
noncomputable def zD:Array Oper:=match qF with| .seq (.region _ ops _) _=>ops|_=> #[]
noncomputable def uU:Code:=match qF with| .seq _ c=>c|_=>.skip
noncomputable def PU:Array Oper:=match uU with| .seq (.region _ ops _) _=>ops|_=> #[]
noncomputable def Gy:Code:=match uU with| .seq _ c=>c|_=>.skip
noncomputable def PV:Array Oper:=match Gy with| .seq (.region _ ops _) _=>ops|_=> #[]
theorem acW:qF=.seq (.region 0 zD false) uU:=by kernel_rfl
theorem Zw:uU=.seq (.region 1 PU false) Gy:=by kernel_rfl
theorem Zx:Gy=.seq (.region 2 PV false) kZ:=by kernel_rfl
theorem afg(t:TypeId)(k:Tmp)(a:Act)(hz:∀w,(sizeOf t).run Tryz.prog w=.ok (a.eval (.tmp k)).cells.size w)(he:∀w,(sizeOf t).events Tryz.prog w #[]= #[])(d:Option Tmp)(ps:String)(w:World):(execOp a.eval ⟨d,.box t (.tmp k),0,ps,#[],none⟩).run Tryz.prog w=.ok (.value (.pointer (some ⟨w.heap.size,0,none⟩))) (w.alloc (.cells (a.eval (.tmp k)).cells t))/\(execOp a.eval ⟨d,.box t (.tmp k),0,ps,#[],none⟩).events Tryz.prog w #[]= #[]:=by
 unfold execOp
 constructor
 ·simp[go_sem]
 ·simp[go_sem]
theorem Wu(t:TypeId)(cs:Array Value)(ρ:Operand->Value)(hz:∀w,(zeroValue t).run Tryz.prog w=.ok (.agg cs) w)(he:∀w,(zeroValue t).events Tryz.prog w #[]= #[])(d:Option Tmp)(ps:String)(w:World):(execOp ρ ⟨d,.alloc t,0,ps,#[],none⟩).run Tryz.prog w=.ok (.value (.pointer (some ⟨w.heap.size,0,none⟩))) (w.alloc (.cells cs t))/\(execOp ρ ⟨d,.alloc t,0,ps,#[],none⟩).events Tryz.prog w #[]= #[]:=by
 unfold execOp
 constructor
 ·simp[go_sem,hz]
 ·simp[go_sem,hz,he]
section
variable {main : Bool} {U : Nat → Prop} {Stop : (Nat → Prop) → Nat → Goroutine → World → Prop}
theorem wX{b:Frame}{a:Act}{ops:Array Oper}{i:Nat}{rest:List Nat}{k:List Item}{cs:List Frame}{o:Oper}{ob:World->Obj}(ho:ops[i]? =some o)(hw:Region.wanted o (yielded ops a.tmps)=true)(hk:b.kind≠ .early)(w:World)
  (h:(execOp a.eval o).run Tryz.prog w=.ok (.value (.pointer (some ⟨w.heap.size,0,none⟩))) (w.alloc (ob w))/\(execOp a.eval o).events Tryz.prog w #[]= #[]):
  stepG Tryz.prog main (G (b.at a (.inRegion ops (i::rest)::k)) cs) w=.go (G (b.at (a.put o.dst (.pointer (some ⟨w.heap.size,0,none⟩))) (.inRegion ops rest::k)) cs) (w.alloc (ob w)) #[]:=by
 rw[stepG_value ho hw hk h.1]
 unfold listed
 rw[h.2]
 rw[seen_none]
def H1(w:World)(s:ByteArray):Array Obj:=w.heap.push (.cells #[.string s] 9)
def H2(w:World)(s:ByteArray)(vl:Value):Array Obj:=(H1 w s).push (.cells #[vl] 176)
def H3(w:World)(s:ByteArray)(vl:Value):Array Obj:=(H2 w s vl).push (.cells #[.int .u64 0,.int .u32 0] 200)
def H4(w:World)(s:ByteArray)(vl:Value):Array Obj:=(H3 w s vl).push (.cells #[.int .i64 0] 202)
theorem Sv{O:Nat->Prop}{w:World}{cs:List Frame}{s:ByteArray}{ad:Option Addr}{n cap:Nat}{vl:Value}(hvl:vl=.slice ad n cap):
  OT Tryz.prog true qJ (Gx U) (λO d g wf=>d=0/\g.status=.running/\wV (.string s) vl w.heap.size (w.heap.size+1) (w.heap.size+2) (w.heap.size+3) cs g/\Made (H4 w s vl) w wf) O 0 (G (Frame.enter Tryz.prog 122 #[.string s,vl] .normal) cs) w:=by
 rw[enter_at _ Tryz.func122 (show Tryz.f122.body=some qF by kernel_rfl)]
 have e0:zD[0]? =some ⟨some 2,.box 9 (.tmp 0),0,"frames.go:59",#[],none⟩:=by kernel_rfl
 have e1:zD[1]? =some ⟨some 3,.box 176 (.tmp 1),0,"frames.go:59",#[],none⟩:=by kernel_rfl
 have e2:zD[2]? =some ⟨some 4,.assign (.const (.bool false)),4,"frames.go:59",#[],none⟩:=by kernel_rfl
 have e3:PU[0]? =some ⟨some 5,.alloc 200,0,"frames.go:60",#[],none⟩:=by kernel_rfl
 have e4:PV[0]? =some ⟨some 6,.alloc 202,0,"frames.go:61",#[],none⟩:=by kernel_rfl
 have r0:List.range zD.size=[0,1,2]:=by kernel_rfl
 have r1:List.range PU.size=[0]:=by kernel_rfl
 have r2:List.range PV.size=[0]:=by kernel_rfl
 have nn:Tryz.f122.ntmps=17:=rfl
 rw[nn]
 have hT:(#[.string s,vl]++Array.replicate (17- #[.string s,vl].size) undef:Array Value)= #[.string s,vl,undef,undef,undef,undef,undef,undef,undef,undef,undef,undef,undef,undef,undef,undef,undef]:=by
  simp[Array.replicate_succ]
 rw[hT]
 rw[acW]
 clear hT nn
 generalize hA0:(⟨#[.string s,vl,undef,undef,undef,undef,undef,undef,undef,undef,undef,undef,undef,undef,undef,undef,undef],[]⟩:Act)=A0
 show OT _ _ _ _ _ O 0 (G (bH.at A0 _) cs) w
 refine OT.ctl rfl (λw=>stepG_seq) ?_
 refine OT.ctl rfl (λw=>stepG_region) ?_
 rw[r0]
 have v0:A0.eval (.tmp 0)=.string s:=by rw[<-hA0];rfl
 have v1:A0.eval (.tmp 1)=vl:=by rw[<-hA0];rfl
 have c0:(A0.eval (.tmp 0)).cells= #[.string s]:=by rw[v0];rfl
 refine OT.new rfl (λm=>G (bH.at (A0.put (some 2) (.pointer (some ⟨m,0,none⟩))) [.inRegion zD [1,2],.code uU]) cs) (.cells #[.string s] 9) (λw=>by
  have h:=afg 9 0 A0 (λw=>by rw[c0];kernel_rfl) (λw=>by kernel_rfl) (some 2) "frames.go:59" w
  rw[c0]at h
  exact wX (ob:=λ_=>.cells #[.string s] 9) e0 rfl (by k_ne) w h) λw1 he1=> ?_
 have m1:Made (H1 w s) w (w1.alloc (.cells #[.string s] 9)):=(Made.env ⟨rfl,rfl,rfl,rfl⟩ he1).alloc _
 have n1:(w1.alloc (.cells #[.string s] 9)).heap.size=w.heap.size+1:=by rw[m1.heap];simp[H1]
 generalize(w1.alloc (.cells #[.string s] 9))=z1 at*
 generalize grow O w1 z1=O1
 generalize hA1:A0.put (some 2) (.pointer (some ⟨w.heap.size,0,none⟩))=A1
 have v2:A1.eval (.tmp 1)=vl:=by rw[<-hA1,<-hA0];rfl
 have c1:(A1.eval (.tmp 1)).cells= #[vl]:=by rw[v2,hvl];rfl
 refine OT.new rfl (λm=>G (bH.at (A1.put (some 3) (.pointer (some ⟨m,0,none⟩))) [.inRegion zD [2],.code uU]) cs) (.cells #[vl] 176) (λw=>by
  have h:=afg 176 1 A1 (λw=>by rw[c1];kernel_rfl) (λw=>by kernel_rfl) (some 3) "frames.go:59" w
  rw[c1]at h
  exact wX (ob:=λ_=>.cells #[vl] 176) e1 rfl (by k_ne) w h) λw2 he2=> ?_
 rw[n1]
 have m2:Made (H2 w s vl) w (w2.alloc (.cells #[vl] 176)):=(m1.env he2).alloc _
 have n2:(w2.alloc (.cells #[vl] 176)).heap.size=w.heap.size+2:=by rw[m2.heap];simp[H1,H2]
 generalize(w2.alloc (.cells #[vl] 176))=z2 at*
 generalize grow O1 w2 z2=O2
 generalize hA2:A1.put (some 3) (.pointer (some ⟨w.heap.size+1,0,none⟩))=A2
 refine OT.ctl (g':=G (bH.at (A2.put (some 4) (.bool false)) [.inRegion zD [],.code uU]) cs) rfl (λv=>by
  rw[stepG_value (v:=.bool false) (w':=v) e2 rfl (by k_ne) (by unfold execOp;simp[go_sem,Act.eval])]
  have:(execOp A2.eval ⟨some 4,.assign (.const (.bool false)),4,"frames.go:59",#[],none⟩).events Tryz.prog v #[]= #[]:=by unfold execOp;simp[go_sem]
  unfold listed
  rw[this,seen_none]) ?_
 generalize hA3:A2.put (some 4) (.bool false)=A3
 refine OT.ctl rfl (λw=>stepG_region_end) ?_
 rw[Zw]
 refine OT.ctl rfl (λw=>stepG_seq) ?_
 refine OT.ctl rfl (λw=>stepG_region) ?_
 rw[r1]
 refine OT.new rfl (λm=>G (bH.at (A3.put (some 5) (.pointer (some ⟨m,0,none⟩))) [.inRegion PU [],.code Gy]) cs) (.cells #[.int .u64 0,.int .u32 0] 200) (λv=>wX (ob:=λ_=>.cells #[.int .u64 0,.int .u32 0] 200) e3 rfl (by k_ne) v (Wu _ _ _ (λw=>by kernel_rfl) (λw=>by kernel_rfl) _ _ v)) λw3 he3=> ?_
 rw[n2]
 have m3:Made (H3 w s vl) w (w3.alloc (.cells #[.int .u64 0,.int .u32 0] 200)):=(m2.env he3).alloc _
 have n3:(w3.alloc (.cells #[.int .u64 0,.int .u32 0] 200)).heap.size=w.heap.size+3:=by rw[m3.heap];simp[H1,H2,H3]
 generalize(w3.alloc (.cells #[.int .u64 0,.int .u32 0] 200))=z3 at*
 generalize grow O2 w3 z3=O3
 generalize hA4:A3.put (some 5) (.pointer (some ⟨w.heap.size+2,0,none⟩))=A4
 refine OT.ctl rfl (λw=>stepG_region_end) ?_
 rw[Zx]
 refine OT.ctl rfl (λw=>stepG_seq) ?_
 refine OT.ctl rfl (λw=>stepG_region) ?_
 rw[r2]
 refine OT.new rfl (λm=>G (bH.at (A4.put (some 6) (.pointer (some ⟨m,0,none⟩))) [.inRegion PV [],.code kZ]) cs) (.cells #[.int .i64 0] 202) (λv=>wX (ob:=λ_=>.cells #[.int .i64 0] 202) e4 rfl (by k_ne) v (Wu _ _ _ (λw=>by kernel_rfl) (λw=>by kernel_rfl) _ _ v)) λw4 he4=> ?_
 rw[n3]
 have m4:Made (H4 w s vl) w (w4.alloc (.cells #[.int .i64 0] 202)):=(m3.env he4).alloc _
 generalize(w4.alloc (.cells #[.int .i64 0] 202))=z4 at*
 refine OT.ctl rfl (λw=>stepG_region_end) ?_
 refine .stop λwf hf=>⟨rfl,rfl,⟨undef,undef,undef,undef,undef,undef,undef,undef,undef,undef,?_⟩,m4.env hf⟩
 rw[<-hA4,<-hA3,<-hA2,<-hA1,<-hA0]
 rfl
end
end Go.Proofs.YtlncengggmgdgaaGreat.par
namespace Go.Proofs.YtlncengggmgdgaaGreat.par
open Go Go.Conc Go.RowKit Go.Conc.Lib Go.ConcR.Gen Go.ConcN.Gen
open Go.ConcR (stA smA WgAt KK rd wr mk DC0)
theorem Zy:Extern.findNext Tryz.f171=none:=by rfl
theorem Zz:Extern.find Tryz.f171=some (Extern.Atomic.loadT (.int .i64)):=by rfl
section
variable {A : gW} {I : World → Prop} {vs vl : Value} {bs bl : Nat} {cs : List Frame}
def acX(b:Bool)(cs:List Frame)(g:Goroutine):Prop:=∃(T:Array Value)(todo:List Item),g=G {bH.at ⟨T,[]⟩ todo with mode:=.returning} cs/\T.getD 4 undef=.bool b
def ZA(I:World->Prop)(wB:Nat)(cs:List Frame)(g:Goroutine)(w:World):Prop:=
 g.status=.running/\∀v:Int,w.cell? ⟨wB,0,none⟩=some (.int .i64 v)->∃g',stepG Tryz.prog true g w=.go g' w #[rd ⟨wB,0,none⟩]/\∃m,wR Tryz.prog true I (λg _=>acX (v==0) cs g) m g'
theorem Sz{g:Goroutine}(hg:gW.Zu A vs vl bs bl cs g):wR Tryz.prog true I (ZA I A.wB cs) 60 g:=by
 obtain⟨x7,x8,x9,x10,x11,x12,kR,x14,x15,x16,rfl⟩:=hg
 simp only[kZ,qF,Tryz.f122,Option.getD_some,jK,kE,zx,ops9,zy]
 repeat(first|(with_reducible apply bn)|(with_reducible apply aI)|((with_reducible apply gi_region);simp only[List.size_toArray,List.length_cons,List.length_nil,Nat.reduceAdd,Nat.zero_add,List.range,List.range.loop])|(with_reducible apply aK)|(with_reducible apply aT)|(with_reducible apply dM)|(with_reducible apply bG)|((with_reducible refine aH (v:= ?_) (o:= ?_) ?_ ?_ ?_ (λ_ _=> ?_) (λ_ _=> ?_) ?_);rotate_left 2;(focus exact rfl);(focus exact rfl);(focus k_ne);(focus (go_simp;(try w_num);first|done|exact rfl));(focus (simp[go_sem, *];done));walk_nrm)|(refine jw rfl rfl (by k_ne) rfl Tryz.func141 (by kernel_rfl) rfl ?_;walk_nrmf Tryz.f141))
 refine dw.halt λw h=>⟨rfl,λv hc=> ?_⟩
 refine⟨_,stepG_load_atomic rfl rfl (by k_ne) rfl Tryz.func171 (by kernel_rfl) (by kernel_rfl) Zy .i64 Zz rfl hc,60,?_⟩
 clear hc h w
 walk_nrm
 repeat(first|(with_reducible apply bn)|(with_reducible apply aI)|((with_reducible apply gi_region);simp only[List.size_toArray,List.length_cons,List.length_nil,Nat.reduceAdd,Nat.zero_add,List.range,List.range.loop])|(with_reducible apply aK)|(with_reducible apply aT)|(with_reducible apply dM)|(with_reducible apply bG)|((with_reducible refine aH (v:= ?_) (o:= ?_) ?_ ?_ ?_ (λ_ _=> ?_) (λ_ _=> ?_) ?_);rotate_left 2;(focus exact rfl);(focus exact rfl);(focus k_ne);(focus (go_simp;(try w_num);first|done|exact rfl));(focus (simp[go_sem, *];done));walk_nrm)|(refine gK rfl rfl Tryz.func141 rfl ?_;walk_nrm))
 exact dw.halt λw h=>⟨_,_,rfl,rfl⟩
end
end Go.Proofs.YtlncengggmgdgaaGreat.par
namespace Go.Proofs.YtlncengggmgdgaaGreat.par
open Go Go.Conc Go.RowKit Go.Conc.Lib Go.ConcR.Gen Go.ConcN.Gen
open Go.ConcR (stA smA WgAt KK rd wr mk DC0)
theorem Gz{U:Nat->Prop}{B:Nat}{t:Trace}(h:∀op∈t,op.act.low B)(hU:∀b,U b->B<=b):Zl U t:=λop hop=>
 ⟨λx hx hl=>EM (h op hop) hx (hl.imp hU),λa ha hu=>by
  have h1:=h op hop
  rw[ha]at h1
  have h2:a.block<B:=h1
  have:=hU _ hu
  omega⟩
theorem ZC{U:Nat->Prop}{t:Trace}{a:Addr}(h:Zl U t)(ha:U a.block):NoRelease a t:=λi hi=>by
 unfold Trace.act? at hi
 obtain⟨op,h1,h2⟩:=Option.map_eq_some_iff.1 hi
 exact(h op (Array.mem_of_getElem? h1)).2 a h2 ha
section
variable {w w1 : World} {s : ByteArray} {vl : Value}
theorem ZE:(H4 w s vl).size=w.heap.size+4:=by simp[H4,H3,H2,H1]
theorem acY{b:Nat}(h:b<w.heap.size):(H4 w s vl)[b]? =w.heap[b]? :=by
 unfold H4 H3 H2 H1
 rw[Array.getElem?_push,if_neg (by first|(simp;done)|(simp;omega)),Array.getElem?_push,if_neg (by first|(simp;done)|(simp;omega)),Array.getElem?_push,if_neg (by first|(simp;done)|(simp;omega)),Array.getElem?_push,if_neg (by omega)]
theorem ai6:(H4 w s vl)[w.heap.size]? =some (.cells #[.string s] 9):=by
 unfold H4 H3 H2 H1
 rw[Array.getElem?_push,if_neg (by first|(simp;done)|(simp;omega)),Array.getElem?_push,if_neg (by first|(simp;done)|(simp;omega)),Array.getElem?_push,if_neg (by simp),Array.getElem?_push,if_pos rfl]
theorem ai7:(H4 w s vl)[w.heap.size+1]? =some (.cells #[vl] 176):=by
 unfold H4 H3 H2 H1
 rw[Array.getElem?_push,if_neg (by simp),Array.getElem?_push,if_neg (by simp),Array.getElem?_push,if_pos (by simp)]
theorem ai8:(H4 w s vl)[w.heap.size+2]? =some (.cells #[.int .u64 0,.int .u32 0] 200):=by
 unfold H4 H3 H2 H1
 rw[Array.getElem?_push,if_neg (by simp),Array.getElem?_push,if_pos (by simp)]
theorem ai9:(H4 w s vl)[w.heap.size+3]? =some (.cells #[.int .i64 0] 202):=by
 unfold H4 H3 H2 H1
 rw[Array.getElem?_push,if_pos (by simp)]
end
theorem Wv{A:gW}{O:Nat->Prop}{w:World}{v:Int}{c:Frame}{cs:List Frame}{g:Goroutine}{vs vl:Value}{bs bl:Nat}(hO:O A.wB)(hw:w.heap[A.wB]? =some (.cells #[.int .i64 v] 202))(hg:gW.Zu A vs vl bs bl (c::cs) g):
  OT Tryz.prog true qJ (Gx jk) (λO' d g w'=>d=0/\g.status=.running/\g=G (c.finish (.bool (v==0))) cs/\w'.heap=w.heap/\w'.tape=w.tape/\w'.os=w.os/\w'.output=w.output) O 0 g w:=by
 have hE:∀{O:Nat->Prop}{a b:World},qJ O a b->b.heap=a.heap:=λhe=>he.live
 let I:World->Prop:=λx=>x.heap=w.heap/\x.tape=w.tape/\x.os=w.os/\x.output=w.output
 have hI:∀(O:Nat->Prop)a b,qJ O a b->I a->I b:=λO a b he h=>⟨(hE he).trans h.1,he.env.tape.trans h.2.1,he.env.os.trans h.2.2.1,he.env.output.trans h.2.2.2⟩
 have h1:= @Sz A I vs vl bs bl (c::cs) g hg
 refine OT.rH (dw.quiet (I:=I) (dO.refl Lu) (hI O) (λw=>CJ O w) h1 (⟨rfl,rfl,rfl,rfl⟩:I w) (d:=0)) λO1 d1 g1 w1 hall=> ?_
 obtain⟨rfl,rfl,_⟩:=hall w1 (dO.refl Lu _ _)
 refine OT.mk (hall w1 (dO.refl Lu _ _)).2.2.2.1 λw₁ he=> ?_
 obtain⟨_,_,hI1,_,hst⟩:=hall w₁ he
 have hc:w₁.cell? ⟨A.wB,0,none⟩=some (.int .i64 v):=by
  unfold World.cell?
  dsimp only
  rw[hI1.1,hw]
  rfl
 obtain⟨g2,e2,m,h2⟩:=hst v hc
 refine⟨g2,w₁,_,e2,⟨⟨rfl,rfl,rfl,Nat.le_refl _,λ_ _ _=>rfl,λe he=> ?_⟩,λe he=>⟨λx hx hl=>by obtain⟨b,h,_⟩:=inB.two hl hl;exact h,λa ha=>id⟩⟩,?_⟩
 ·rw[Array.mem_singleton]at he
  subst he
  exact .inl (.inl hO)
 ·rw[jL rfl,deafBehind_still (λe he=>by rw[Array.mem_singleton]at he;subst he;exact⟨by simp[rd],by simp[rd]⟩)]
  refine OT.rH (dw.quiet (I:=I) (dO.refl Lu) (hI O1) (λw=>CJ O1 w) h2 hI1 (d:=0)) λO3 d3 g3 w3 zA=> ?_
  obtain⟨rfl,rfl,hI3,T,todo,rfl,h4⟩:=zA w3 (dO.refl Lu _ _)
  have hv:(results Tryz.f122 T).run Tryz.prog w3=.ok (T.getD 4 undef) w3:=results_tmp (by rfl) _ _ _
  refine OT.ctl (g':=G (c.finish (.bool (v==0))) cs) rfl (λz=> ?_) (.stop λw4 he4=>⟨rfl,rfl,rfl,(hE he4).trans hI3.1,he4.env.tape.trans hI3.2.1,he4.env.os.trans hI3.2.2.1,he4.env.output.trans hI3.2.2.2⟩)
  rw[<-h4]
  exact stepG_leave rfl rfl Tryz.func122 (results_tmp (by rfl) _ _ _) (events_results_tmp (by rfl) _ _)
theorem Wx(K:Machine->Trace->Prop)(hback:∀m t m' ops,stepT Tryz.prog m=(.next m',ops)->K m' (t++ops)->K m t){S:Nat->Prop}{gs:Array Goroutine}{w:World}{sl:Option (Nat×Nat)}{t:Trace}{O:Nat->Prop}{q:Nat->Nat}
  (hc:pU Tryz.prog S gs w t O q) {s:ByteArray} {ad:Option Addr} {n cap b off:Nat} {c:Frame} {cs:List Frame} (ha:gs[0]? =some (G (Frame.enter Tryz.prog 122 #[.string s,.slice ad n cap] .normal) (c::cs))) (hgl:(Tryz.prog).toTables.globals.size<=w.heap.size)
  (hn:n<1000000000000) (had:0<n->ad=some ⟨b,off,none⟩/\b<w.heap.size/\¬S b) {cu:Nat->Int×Int×Int} {gb:Nat->Bool}
  (hcells:∀i,i<n->w.cell? ⟨b,off+i*3,none⟩=some (.int .i64 (cu i).1)/\w.cell? ⟨b,off+i*3+1,none⟩=some (.int .i64 (cu i).2.1)/\w.cell? ⟨b,off+i*3+2,none⟩=some (.int .i64 (cu i).2.2))
  (hone:∀i,i<n->∀u:World,(Tryz.prog).toTables.globals.size<=u.heap.size->Calls (ah Hw) 138 #[.agg #[.int .i64 (cu i).1,.int .i64 (cu i).2.1,.int .i64 (cu i).2.2],.string s] u (λe _=>e=.returned (.bool (gb i))))
  (hfin:∀gs' w' sl' t' q' S'(v:Bool),(v=true↔∀i,i<n->gb i=true)->pU Tryz.prog S' gs' w' t' O q'->gs'[0]? =some (G (c.finish (.bool v)) cs)->(∀b,S' b->S b\/w.heap.size<=b)->mW (λb=>b<w.heap.size/\¬S b) w w'->K (crowd gs' w' sl') t'):K (crowd gs w sl) t:=by
 have hOl:∀b,O b->b<w.heap.size:=λb hb=>hc.ge.lt 0 b ⟨rfl,hb⟩
 have hOs:∀b,O b->¬S b:=λb hb=>hc.ge.sh 0 b ⟨rfl,hb⟩
 have hSl:∀b,S b->b<w.heap.size:=hc.ge.zY
 refine uN K hback (λb=>b=w.heap.size+2\/b=w.heap.size+3) (λ_ g wf=>wV (.string s) (.slice ad n cap) w.heap.size (w.heap.size+1) (w.heap.size+2) (w.heap.size+3) (c::cs) g/\Made (H4 w s (.slice ad n cap)) w wf) ?_ gs w sl t O q _ hc (Gz hc.ti.seen λb hb=>by omega) ha (Sv rfl)
 intro gs1 w1 sl1 t1 O1 q1 a1 hc1 hu1 ha1 _ hF1
 obtain⟨hst,hm⟩:=hF1 w1 (dO.refl Lu _ _)
 have hz1:w1.heap.size=w.heap.size+4:=by rw[hm.heap,ZE]
 have abS:∀b,b<w.heap.size->w1.heap[b]? =w.heap[b]? :=λb hb=>by rw[hm.heap,acY hb]
 let A:gW:={P:=Tryz.prog,N0:=gs1.size,Wg:=w.heap.size+2,wB:=w.heap.size+3,S0:=S,B1:=w.heap.size+4,tW:=link.tWg,tB:=202,bnd:=n,gd:=λk=>∀i,i<n->i%4=k->gb i=true,Wz:=w1}
 have hRd:∀b,b<w.heap.size->¬S b->A.Rd b:=λb hb hs=>⟨by show b<w.heap.size+4;omega,by show b≠w.heap.size+2;omega,by show b≠w.heap.size+3;omega,hs⟩
 have hcell1:∀bb o,bb<w.heap.size->w1.cell? ⟨bb,o,none⟩=w.cell? ⟨bb,o,none⟩:=λbb o hb=>by
  unfold World.cell?
  dsimp only
  rw[abS bb hb]
 have J:A.Gv (w.heap.size+1) w.heap.size n cap b off ad s cu gb:=by
  refine⟨rfl,rfl,by show w.heap.size+3≠w.heap.size+2;omega,λj hj fb hfb=> ?_,by show w.heap.size+4<=w1.heap.size;omega⟩
  have alG:w.heap.size+4<=fb:=hfb
  refine⟨rfl,rfl,by show w.heap.size+3≠w.heap.size+2;omega,λhs=> ?_,⟨by show w.heap.size+1<w.heap.size+4;omega,by show w.heap.size+1≠w.heap.size+2;omega,by show w.heap.size+1≠w.heap.size+3;omega,λhs=>by have:=hSl _ hs;omega⟩,
   ⟨by show w.heap.size<w.heap.size+4;omega,by show w.heap.size≠w.heap.size+2;omega,by show w.heap.size≠w.heap.size+3;omega,λhs=>by have:=hSl _ hs;omega⟩,λh0=>⟨(had h0).1,hRd b (had h0).2.1 (had h0).2.2⟩,hn,?_,?_,λi hi=> ?_,Iff.rfl,rfl,λi hi fr cs' O w2 hO hl hv hmode=> ?_⟩
  ·rcases hs with hs|hs|hs
   ·have:=hSl _ hs;omega
   ·have:fb=w.heap.size+2:=hs;omega
   ·have:fb=w.heap.size+3:=hs;omega
  ·show w1.heap[w.heap.size+1]? =_
   rw[hm.heap,ai7]
  ·show w1.heap[w.heap.size]? =_
   rw[hm.heap,ai6]
  ·have hb:=(had (by omega)).2.1
   obtain⟨h1,h2,h3⟩:=hcells i hi
   exact⟨(hcell1 _ _ hb).trans h1,(hcell1 _ _ hb).trans h2,(hcell1 _ _ hb).trans h3⟩
  ·exact gW.NQ rfl (by show w.heap.size+4<=w1.heap.size;omega) (by show _<=w1.heap.size;omega) (hone i hi) fr cs' hmode O w2 hO hl hv
 have hW:WgAt A.tW A.Wg w1 0 0:=by
  show w1.heap[w.heap.size+2]? =_
  rw[hm.heap,ai8]
  rfl
 have hB:A.WB 0 w1:=by
  show w1.heap[w.heap.size+3]? =_
  rw[hm.heap,ai9]
 have hl:A.Live w1:=⟨⟨⟨_,_,hW⟩,_,hB⟩,⟨rfl,rfl,rfl,Nat.le_refl _,λ_ _=>rfl⟩⟩
 refine gW.RP (A:=A) (Anch:=A.CB (.string s) (.slice ad n cap) w.heap.size (w.heap.size+1) (c::cs)) (aU:=A.Eb (.string s) (.slice ad n cap) w.heap.size (w.heap.size+1) (c::cs)) hc1.pos (by show w.heap.size+2≠w.heap.size+3;omega) (by show 4*n<_;omega) K hback J.anch (λ_ _ _ _ h=>h.run) ?_ (q:=q1) (a:=a1) (O:=O1) hc1 rfl ha1 hW hB hl hu1 (ZC hu1 (.inl rfl)) (by show w.heap.size+4<=w1.heap.size;omega) (Om:=λ_=>False) (λ_ h=>h.elim) (J.start hl hst)
 intro gs2 w2 sl2 t2 q2 a2 O2 hc2 _ ha2 _ hv hl2 hF2
 obtain⟨v,hv2,hvi⟩:=hv
 obtain⟨_,hend⟩:=hF2 w2 (dO.refl gW.Aj _ _)
 have hc3:pU Tryz.prog (λb=>S b\/b=w.heap.size+2) gs2 w2 t2 (λb=>O b\/b=w.heap.size+3) q2:=by
  refine pU.reO hc2 (λb hb=> ?_) (λb hb=> ?_)
  ·have h1:w1.heap.size<=w2.heap.size:=hl2.2.size
   rcases hb with hb|rfl
   ·have:=hOl b hb;omega
   ·omega
  ·rcases hb with hb|rfl
   ·have:=hOl b hb
    intro hs
    rcases hs with hs|hs
    ·exact hOs b hb hs
    ·have:b=w.heap.size+2:=hs;omega
   ·intro hs
    rcases hs with hs|hs
    ·have:=hSl _ hs;omega
    ·have:w.heap.size+3=w.heap.size+2:=hs;omega
 refine uN K hback jk (λ_ g w'=>g=G (c.finish (.bool (v==0))) cs/\w'.heap=w2.heap/\w'.tape=w2.tape/\w'.os=w2.os/\w'.output=w2.output) ?_ gs2 w2 sl2 t2 _ q2 a2 hc3 (Gz hc3.ti.seen λb hb=>hb.elim) ha2 (Wv (A:=A) (.inr rfl) hv2 hend)
 intro gs4 w4 sl4 t4 O4 q4 a4 hc4 _ ha4 _ hF4
 obtain⟨rfl,e1,e2,e3,e4⟩:=hF4 w4 (dO.refl Lu _ _)
 have hz2:w1.heap.size<=w2.heap.size:=hl2.2.size
 refine hfin gs4 w4 sl4 t4 q4 _ (v==0) ?_ (pU.reO hc4 (λb hb=>by have:=hOl b hb;rw[e1];omega) λb hb hs=> ?_) ha4 (λb hs=>hs.imp id λh=>by have:b=w.heap.size+2:=h;omega) ⟨e2.trans (hl2.2.tape.trans hm.tape),e3.trans (hl2.2.os.trans hm.os),e4.trans (hl2.2.output.trans hm.output),by rw[e1];omega,λb hb=> ?_⟩
 ·rw[beq_iff_eq,hvi]
  refine⟨λh i hi=>h (i%4) (Nat.mod_lt _ (by omega)) i hi rfl,λh k _ i hi _=>h i hi⟩
 ·have:=hOl b hb
  rcases hs with hs|hs
  ·exact hOs b hb hs
  ·have:b=w.heap.size+2:=hs;omega
 ·rw[e1,hl2.2.heap b (hRd b hb.1 hb.2)]
  exact abS b hb.1
end Go.Proofs.YtlncengggmgdgaaGreat.par
