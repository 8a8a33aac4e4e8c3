/- The trace of many, each with blocks of its own. No conditions. -/
import Derived.Test.YtlncengggmgdgaaGreatG09
import Derived.Conc.CrowdTrace
import Derived.Conc.CrowdBase
import Derived.Conc.WrWorld
import Derived.Conc.CrowdCom2
set_option linter.unusedVariables false
set_option linter.unusedSimpArgs false
namespace Go.Proofs.YtlncengggmgdgaaGreat.par
open Go Go.Conc
open Go.ConcN (CT Apart Ok0 OkW Deaf_absent PermW)
def inB(O:Nat->Prop):Loc->Prop
 | .cell a=>O a.block
 | .obj r=>O r
 |_=>False
theorem inB.imp{O O':Nat->Prop}{l:Loc}(h:inB O l)(hO:∀b,O b->O' b):inB O' l:=by
 cases l<;>first|exact hO _ h|exact h
theorem inB.two{O O':Nat->Prop}{l:Loc}(h:inB O l)(k:inB O' l):∃b,O b/\O' b:=by
 cases l<;>first|exact⟨_,h,k⟩|exact h.elim
theorem inB.or{O O':Nat->Prop}{l:Loc}(h:inB (λb=>O b\/O' b) l):inB O l\/inB O' l:=by
 cases l<;>first|exact h|exact h.elim
def EvR(Rd:Nat->Prop)(e:Event):Prop:=e.write=false/\inB Rd e.loc
def EvS(Sh:Nat->Prop)(said:Prop)(e:Event):Prop:=
 (∃a wr,e=⟨.cell a,wr,true⟩/\Sh a.block)\/((∃a,e.loc=.mark (.acquire a)/\Sh a.block)\/(∃a,e.loc=.mark (.releaseMerge a)/\Sh a.block))\/(said/\((∃a,e.loc=.mark (.read a)/\Sh a.block)\/(∃a,e.loc=.mark (.write a)/\Sh a.block)\/e.loc=.output))
theorem Il.touch{O:Nat->Prop}{e:Event}{x:Touch}(h:Il O e)(hx:(MemAct.ofEvent e).touch?=some x):inB O x.loc:=by
 obtain⟨loc,wr,sy⟩:=e
 cases loc with
 |cell a=>
  have:x.loc=.cell a:=by
   cases wr<;>cases sy<;>(simp[MemAct.ofEvent,MemAct.touch?]at hx;subst hx;rfl)
  rw[this];exact h
 |obj r=>
  have:x.loc=.obj r:=by
   cases wr<;>cases sy<;>first|(simp[MemAct.ofEvent,MemAct.touch?]at hx;subst hx;rfl)|(simp[MemAct.ofEvent,MemAct.touch?]at hx)
  rw[this];exact h
 |mark m=>
  cases m<;>first
   |(simp[MemAct.ofEvent,MemAct.touch?]at hx;subst hx;exact h)
   |(simp[MemAct.ofEvent,MemAct.touch?]at hx)
 |_=>exact h.elim
theorem Il.low{O:Nat->Prop}{e:Event}{B:Nat}(h:Il O e)(hO:∀b,O b->b<B):(MemAct.ofEvent e).low B:=by
 obtain⟨loc,wr,sy⟩:=e
 cases loc with
 |cell a=>cases wr<;>cases sy<;>exact hO _ h
 |obj r=>cases wr<;>cases sy<;>exact hO _ h
 |mark m=>cases m<;>first|exact hO _ h|trivial
 |_=>exact h.elim
theorem EvR.touch{Rd:Nat->Prop}{e:Event}{x:Touch}(h:EvR Rd e)(hx:(MemAct.ofEvent e).touch?=some x):inB Rd x.loc/\x.write=false:=by
 obtain⟨loc,wr,sy⟩:=e
 obtain⟨hw,hl⟩:=h
 dsimp only at hw hl
 subst hw
 cases loc with
 |cell a=>cases sy<;>(simp[MemAct.ofEvent,MemAct.touch?]at hx;subst hx;exact⟨hl,rfl⟩)
 |obj r=>cases sy<;>(simp[MemAct.ofEvent,MemAct.touch?]at hx;subst hx;exact⟨hl,rfl⟩)
 |_=>exact hl.elim
theorem EvR.low{Rd:Nat->Prop}{e:Event}{B:Nat}(h:EvR Rd e)(hO:∀b,Rd b->b<B):(MemAct.ofEvent e).low B:=by
 obtain⟨loc,wr,sy⟩:=e
 obtain⟨hw,hl⟩:=h
 dsimp only at hw hl
 subst hw
 cases loc with
 |cell a=>cases sy<;>exact hO _ hl
 |obj r=>cases sy<;>exact hO _ hl
 |_=>exact hl.elim
theorem EvS.touch{Sh:Nat->Prop}{said:Prop}{e:Event}{x:Touch}(h:EvS Sh said e)(hx:(MemAct.ofEvent e).touch?=some x):(inB Sh x.loc/\x.kind≠ .plain/\(x.kind=.said->said))\/(said/\x.loc=.output):=by
 rcases h with⟨a,wr,rfl,ha⟩|(⟨a,hl,ha⟩|⟨a,hl,ha⟩)|⟨hs,⟨a,hl,ha⟩|⟨a,hl,ha⟩|hl⟩
 ·have:x=⟨.cell a,wr,.atomic⟩:=by cases wr<;>(simp[MemAct.ofEvent,MemAct.touch?]at hx;exact hx.symm)
  subst this
  exact .inl ⟨ha,by simp,by simp⟩
 all_goals
  obtain⟨loc,wr,sy⟩:=e
  dsimp only at hl
  subst hl
 ·simp[MemAct.ofEvent,MemAct.touch?]at hx
 ·simp[MemAct.ofEvent,MemAct.touch?]at hx
 ·simp[MemAct.ofEvent,MemAct.touch?]at hx;subst hx;exact .inl ⟨ha,by simp,λ_=>hs⟩
 ·simp[MemAct.ofEvent,MemAct.touch?]at hx;subst hx;exact .inl ⟨ha,by simp,λ_=>hs⟩
 ·exact .inr ⟨hs,by simp[MemAct.ofEvent,MemAct.touch?]at hx;subst hx;rfl⟩
theorem EvS.low{Sh:Nat->Prop}{said:Prop}{e:Event}{B:Nat}(h:EvS Sh said e)(hO:∀b,Sh b->b<B):(MemAct.ofEvent e).low B:=by
 rcases h with⟨a,wr,rfl,ha⟩|(⟨a,hl,ha⟩|⟨a,hl,ha⟩)|⟨hs,⟨a,hl,ha⟩|⟨a,hl,ha⟩|hl⟩
 ·cases wr<;>exact hO _ ha
 rotate_right
 ·obtain⟨loc,wr,sy⟩:=e
  dsimp only at hl
  subst hl
  trivial
 all_goals
  obtain⟨loc,wr,sy⟩:=e
  dsimp only at hl
  subst hl
  exact hO _ ha
theorem EM{B:Nat}{x:MemAct}{a:Touch}(h:x.low B)(ha:x.touch?=some a)(hl:inB (λb=>B<=b) a.loc):False:=by
 cases x with
 |access e=>
  simp only[MemAct.touch?,Option.some.injEq]at ha
  subst ha
  obtain⟨loc,wr,sy⟩:=e
  cases loc with
  |cell a=>exact absurd (show a.block<B from h) (Nat.not_lt.2 hl)
  |obj r=>exact absurd (show r<B from h) (Nat.not_lt.2 hl)
  |_=>exact hl.elim
 |mark m=>
  cases m<;>first
   |(simp only[MemAct.touch?,Option.some.injEq]at ha;subst ha;exact absurd (show _<B from h) (Nat.not_lt.2 hl))
   |(simp[MemAct.touch?]at ha)
 |_=>simp[MemAct.touch?]at ha
structure GE(Sh Rd:Nat->Prop)(own:Nat->Nat->Prop)(B:Nat):Prop where
 lt:∀k b,own k b->b<B
 apart:∀k k' b,own k b->own k' b->k=k'
 sh:∀k b,own k b->¬Sh b
 rd:∀k b,own k b->¬Rd b
 zY:∀b,Sh b->b<B
 Nl:∀b,Rd b->b<B
 VD:∀b,Rd b->¬Sh b
structure TI(Sh Rd:Nat->Prop)(n0 N:Nat)(own:Nat->Nat->Prop)(B:Nat)(t:Trace):Prop where
 ct:CT (inB Sh) (λk=>inB (own k)) (λk l=>n0<=k/\inB Rd l) t (N-1)
 seen:∀op∈t,op.act.low B
section
variable {Sh Rd : Nat → Prop} {n0 N : Nat} {own own' : Nat → Nat → Prop} {B B' : Nat} {t : Trace}
theorem GE.Px(h:GE Sh Rd own B)(n0:Nat):Apart (inB Sh) (λk=>inB (own k)) (λk l=>n0<=k/\inB Rd l):=
 ⟨λk k' l a b=>by obtain⟨b,h1,h2⟩:=inB.two a b;exact h.apart _ _ b h1 h2,λk k' l a b=>by obtain⟨b,h1,h2⟩:=inB.two a b.2;exact h.rd _ b h1 h2,λk l a b=>by obtain⟨b,h1,h2⟩:=inB.two a b;exact h.sh _ b h1 h2,λk l a b=>by obtain⟨b,h1,h2⟩:=inB.two a.2 b;exact h.VD b h1 h2⟩
theorem TI.VF(h:TI Sh Rd n0 N own B t)(h1:∀k b,1<=k->k<=N-1->own' k b->own k b\/B<=b)(h2:∀k b,1<=k->k<=N-1->own k b->own' k b)(hB:B<=B'):TI Sh Rd n0 N own' B' t:=by
 refine⟨⟨h.ct.quiet,λk k1 kj l hl=> ?_,h.ct.rd,λl hs hl=>h.ct.free l hs λk k1 kj=>⟨λho=>(hl k k1 kj).1 (ho.imp (h2 k · k1 kj)),(hl k k1 kj).2⟩,λl hs hl=>h.ct.mine l hs λk k1 kj ho=>hl k k1 kj (ho.imp (h2 k · k1 kj)),h.ct.nr,h.ct.gs⟩,λop hop=>MemAct.low_mono hB (h.seen op hop)⟩
 have hl':inB (own k) l\/inB (λb=>B<=b) l:=inB.or (hl.imp λb hb=>h1 k b k1 kj hb)
 rcases hl' with h0|h0
 ·exact h.ct.own k k1 kj l h0
 ·intro i a ha e
  obtain⟨op,hop,hx⟩:=touch_of ha
  exact(EM (h.seen op (Array.mem_of_getElem? hop)) hx (e▸h0)).elim
theorem TI.step(h:TI Sh Rd n0 N own B t)(hg:GE Sh Rd own' B')(hB:B<=B')(h1:∀k b,1<=k->k<=N-1->own' k b->own k b\/B<=b)(h2:∀k b,1<=k->k<=N-1->own k b->own' k b){k:Nat}(hk:k<=N-1){fn:FuncId}{pos:String}{es:Array Event}
  (hes:∀e∈es,Il (own' k) e\/((k=0\/n0<=k)/\EvR Rd e)\/EvS Sh (k=0) e):TI Sh Rd n0 N own' B' (t++MemOp.ofEvents k fn pos es):=by
 have h0:=h.VF h1 h2 hB
 have A:=hg.Px n0
 refine⟨?_,seen_app h0.seen λop hop=> ?_⟩
 ·rcases Nat.eq_zero_or_pos k with rfl|hpos
  ·refine h0.ct.app0 A λop hop=> ?_
   obtain⟨e,he,rfl⟩:=Go.Conc.mem_ofEvents hop
   refine⟨rfl,λx hx=> ?_⟩
   rcases hes e he with h3|⟨_,h3⟩|h3
   ·have:=h3.touch hx
    exact .inr ⟨A.ownSh 0 _ this,λk k1 _ ho=>by have:=A.own 0 k _ this ho;omega,λ_ k k1 _ hr=>A.ownRd 0 k _ this hr⟩
   ·obtain⟨h4,h5⟩:=h3.touch hx
    exact .inr ⟨λhs=>by obtain⟨b,a1,a2⟩:=inB.two h4 hs;exact hg.VD b a1 a2,λk k1 _ ho=>by obtain⟨b,a1,a2⟩:=inB.two ho h4;exact hg.rd k b a1 a2,λhw=>by rw[h5]at hw;cases hw⟩
   ·rcases h3.touch hx with⟨h4,h5,_⟩|⟨_,h4⟩
    ·exact .inl ⟨h4,h5⟩
    ·exact .inr ⟨λhs=>by rw[h4]at hs;exact hs,λk k1 _ ho=>by rw[h4]at ho;exact ho,λ_ k k1 _ hr=>by rw[h4]at hr;exact hr.2⟩
  ·refine h0.ct.appW A hpos hk λop hop=> ?_
   obtain⟨e,he,rfl⟩:=Go.Conc.mem_ofEvents hop
   refine⟨rfl,λx hx=> ?_⟩
   rcases hes e he with h3|⟨hn,h3⟩|h3
   ·exact .inr (.inl (h3.touch hx))
   ·obtain⟨h4,h5⟩:=h3.touch hx
    exact .inr (.inr ⟨⟨by omega,h4⟩,h5⟩)
   ·rcases h3.touch hx with⟨h4,h5,h6⟩|⟨h4,_⟩
    ·exact .inl ⟨h4,h5,λe=>by have:=h6 e;omega⟩
    ·omega
 ·obtain⟨e,he,rfl⟩:=Go.Conc.mem_ofEvents hop
  rcases hes e he with h3|⟨_,h3⟩|h3
  ·exact h3.low (hg.lt k)
  ·exact h3.low hg.Nl
  ·exact h3.low hg.zY
theorem TI.fork(h:TI Sh Rd n0 N own B t)(hg:GE Sh Rd own' B)(h1:∀k,1<=k->k<=N-1->own' k=own k)(hN:1<=N){x y:MemOp}(hx:x.g=0/\x.act=.go N)(hy:y.g=N/\y.act=.start)(h0:Deaf t 0=0):TI Sh Rd n0 (N+1) own' B (t++ #[x,y]):=by
 have h2:=h.VF (own':=own') (B':=B) (λk b k1 kj hb=>.inl (by rw[<-h1 k k1 kj];exact hb)) (λk b k1 kj hb=>by rw[h1 k k1 kj];exact hb) (Nat.le_refl _)
 have e:N-1+1=N:=by omega
 refine⟨?_,seen_app h2.seen λop hop=> ?_⟩
 ·have:=h2.ct.fork (hg.Px n0) (x:=x) (y:=y) (by rw[e];exact hx) (by rw[e];exact hy) h0
  rw[show N+1-1=N-1+1 by omega]
  exact this
 ·simp only[List.mem_toArray,List.mem_cons,List.not_mem_nil,or_false]at hop
  rcases hop with rfl|rfl
  ·rw[hx.2];trivial
  ·rw[hy.2];trivial
theorem TI.absent(h:TI Sh Rd n0 N own B t)(hN:1<=N){k:Nat}(hk:N<=k):Deaf t k=0:=Deaf_absent λi op hi e=>by have:=h.ct.gs i op hi;omega
end
end Go.Proofs.YtlncengggmgdgaaGreat.par
namespace Go.Proofs.YtlncengggmgdgaaGreat.par
open Go Go.Conc
open Go.ConcR (again_blocked)
def upd{α:Type 1}(f:Nat->α)(i:Nat)(x:α):Nat->α:=λa=>if a=i then x else f a
theorem upd_same{α:Type 1}(f:Nat->α)(i:Nat)(x:α):upd f i x i=x:=by simp[upd]
theorem upd_ne{α:Type 1}(f:Nat->α){i a:Nat}(x:α)(h:a≠i):upd f i x a=f a:=by simp[upd,h]
structure dO(Rd:Nat->Prop)(Ry:World->World->Prop)(O:Nat->Prop)(w w₁:World):Prop where
 env:pR O w w₁
 rd:∀b,Rd b->w₁.heap[b]? =w.heap[b]?
 live:Ry w w₁
structure RN(Ry:World->World->Prop):Prop where
 refl:∀w,Ry w w
 trans:∀a b c,Ry a b->Ry b c->Ry a c
 draw:∀w d,Ry w (w.at d)
theorem dO.refl{Rd:Nat->Prop}{Ry:World->World->Prop}(hR:RN Ry)(O:Nat->Prop)(w:World):dO Rd Ry O w w:=⟨pR.refl O w,λ_ _=>rfl,hR.refl w⟩
theorem dO.trans{Rd:Nat->Prop}{Ry:World->World->Prop}(hR:RN Ry)(O:Nat->Prop)(a b c:World)(h:dO Rd Ry O a b)(k:dO Rd Ry O b c):dO Rd Ry O a c:=⟨pR.trans O a b c h.env k.env,λx hx=>(k.rd x hx).trans (h.rd x hx),hR.trans _ _ _ h.live k.live⟩
def acL(Sh:Nat->Prop)(e:Event):Prop:=(∃a,e.loc=.mark (.read a)/\Sh a.block)\/(∃a,e.loc=.mark (.write a)/\Sh a.block)\/e.loc=.output
structure Gn(Rd Sh:Nat->Prop)(z:Prop)(O:Nat->Prop)(w w':World)(es:Array Event):Prop where
 tape:w'.tape=w.tape
 os:w'.os=w.os
 output:w'.output=w.output
 size:w.heap.size<=w'.heap.size
 kept:∀b,b<w.heap.size->¬O b->w'.heap[b]? =w.heap[b]?
 evs:∀e∈es,Il (grow O w w') e\/EvR Rd e\/(z/\acL Sh e)
inductive Seat(Tag:Type)where
 |at(s:Tag)
 |quit
 |blk (s:Tag)
def Seat.tag{Tag:Type}:Seat Tag->Option Tag
 | .at s=>some s
 | .quit=>none
 | .blk s=>some s
def Seat.un{Tag:Type}:Seat Tag->Seat Tag
 | .blk s=>.at s
 |x=>x
theorem Seat.VG{Tag:Type}(x:Seat Tag):x.un.tag=x.tag:=by cases x<;>rfl
def Seat.up{Tag:Type}:Seat Tag->Nat
 | .blk _=>0
 |_=>1
structure GR(Tag:Type)where
 seat:Seat Tag
 rank:Rk
 own:Nat->Prop
 deaf:Nat
structure mW(Z:Nat->Prop)(w w':World):Prop where
 tape:w'.tape=w.tape
 os:w'.os=w.os
 output:w'.output=w.output
 size:w.heap.size<=w'.heap.size
 heap:∀b,Z b->w'.heap[b]? =w.heap[b]?
structure dY where
 P:Program
 Tag:Type
 n0:Nat
 M:Nat
 Sh:Nat->Prop
 Rd:Nat->Prop
 Live:World->Prop
 Ry:World->World->Prop
 Stop:Nat->Tag->(Nat->Prop)->Nat->Goroutine->World->Prop
 Gu:Nat->Tag->(Nat->Prop)->World->World->Array Event->Prop
 phi:(Nat->Option Tag)->Nat
 PM:Nat->(Nat->Seat Tag)->World->Trace->Prop
section
variable (T : dY)
def dY.Sits(i:Nat)(x:GR T.Tag)(g:Goroutine)(w:World):Prop:=
 match x.seat with
 | .at s=>Gj T.P (i==0) (dO T.Rd T.Ry) (T.Gu i s) (T.Stop i s) x.rank x.own x.deaf g w
 | .quit=>i≠0/\∃n,x.rank=Rk.nat n/\QuitsD T.P n x.deaf g
 | .blk s=>∃g0:Goroutine,g={g0 with status:=.blocked}/\g0.status=.running/\g0.offers=none/\∀w₁,dO T.Rd T.Ry x.own w w₁->T.Stop i s x.own x.deaf g0 w₁
def dY.ug(g g':Goroutine):Bool:=mayWake T.P g&&g'.status != .blocked&&g'.status != .waiting
def dY.wake(g g':Goroutine)(x:Nat->GR T.Tag):Nat->GR T.Tag:=λk=>if T.ug g g' then{x k with seat:=(x k).seat.un}else x k
def dY.mu(x:Nat->GR T.Tag):Mu:=(T.phi λk=>(x k).seat.tag,λk=>(x (k+1)).rank,(x 0).seat.up,(x 0).rank)
structure dY.Ok:Prop where
 n0:1<=T.n0
 ry:RN T.Ry
 other:∀N(se:Nat->Seat T.Tag)w w' t i k,T.PM N se w t->i<N->k<N->k≠i->se i≠ .quit->se k≠ .quit->mW (λb=>T.Sh b\/T.Rd b) w w'->T.Ry w w'
 gu:∀i s O w w' es,T.Gu i s O w w' es->Gn T.Rd T.Sh (i=0) O w w' es
 run:∀i s O d g w,T.Stop i s O d g w->g.status=.running
 live:∀w w',mW (λb=>T.Sh b\/T.Rd b) w w'->T.Live w->T.Live w'
 idle:∀N i s(se:Nat->Seat T.Tag)(O:Nat->Prop)w w' es t fn pos,i<N->se i=.at s->(∀b,O b->¬T.Sh b/\¬T.Rd b)->(∀b,T.Sh b\/T.Rd b->w'.heap[b]? =w.heap[b]?)->w.heap.size<=w'.heap.size->(∀b,T.Sh b\/T.Rd b->b<w.heap.size)->T.Gu i s O w w' es->T.PM N se w t->T.PM N se w' (t++MemOp.ofEvents i fn pos es)
 mute:∀N i(se:Nat->Seat T.Tag)w es t fn pos,i<N->i≠0->se i=.quit->(∀e∈es,Event.mute e=true)->T.PM N se w t->T.PM N se w (t++MemOp.ofEvents i fn pos es)
 draw:∀N(se:Nat->Seat T.Tag)w d t,T.PM N se w t->T.PM N se (w.at d) t
 EN:∀N(se:Nat->Seat T.Tag)w t,T.PM N se w t->T.PM N (λk=>(se k).un) w t
 some1:∀N(se:Nat->Seat T.Tag)w t,T.PM N se w t->∃i s,i<N/\se i=.at s
structure dY.Parts(gs:Array Goroutine)(w:World)(t:Trace)(x:Nat->GR T.Tag):Prop where
 sits:∀i g,gs[i]? =some g->T.Sits i (x i) g w
 ge:GE T.Sh T.Rd (λk=>(x k).own) w.heap.size
 ti:TI T.Sh T.Rd T.n0 gs.size (λk=>(x k).own) w.heap.size t
 deaf:∀k,k<gs.size->Deaf t k=(x k).deaf
 pos:1<=gs.size
 wk:∀k,1<=k->(x k).seat≠ .quit->T.n0<=k
 pm:T.PM gs.size (λk=>(x k).seat) w t
 max:gs.size<=T.M+1
 live:T.Live w
 out:∀k b,(x k).own b->k<gs.size/\(k=0\/T.n0<=k)
end
section
variable {T : dY} {gs : Array Goroutine} {w w' : World} {t : Trace} {x : Nat → GR T.Tag} {g g' : Goroutine} {i : Nat}
theorem dY.Sits.rely(H:T.Ok)(h:T.Sits i (x i) g w)(he:dO T.Rd T.Ry (x i).own w w'):T.Sits i (x i) g w':=by
 unfold dY.Sits at h⊢
 split at h
 ·exact Gj.rely (dO.trans H.ry) h he
 ·exact h
 ·obtain⟨g0,h1,h2,h3,h4⟩:=h
  exact⟨g0,h1,h2,h3,λw₂ h₂=>h4 w₂ (dO.trans H.ry _ _ _ _ he h₂)⟩
theorem dY.Sits.state(H:T.Ok)(h:T.Sits i (x i) g w):(g.status=.running\/g.status=.finished)\/(∃s,(x i).seat=.blk s)/\g.status=.blocked:=by
 unfold dY.Sits at h
 split at h
 ·exact .inl (.inl (Gj.running (dO.refl H.ry) (λ_ _ _ _=>H.run _ _ _ _ _ _) h))
 ·exact .inl h.2.choose_spec.2.status
 ·rename_i s hs
  obtain⟨g0,h1,_⟩:=h
  exact .inr ⟨⟨s,hs⟩,by rw[h1]⟩
theorem dY.Sits.woken(H:T.Ok)(h:T.Sits i (x i) g w)(he:(x i).seat≠ .quit->dO T.Rd T.Ry (x i).own w w')(a a':Goroutine):T.Sits i (T.wake a a' x i) (Go.Conc.woken T.P a a' w' g) w':=by
 have h0:T.Sits i (x i) g w':=by
  by_cases hq:(x i).seat=.quit
  ·unfold dY.Sits at h⊢
   rw[hq]at h⊢
   exact h
  ·exact h.rely H (he hq)
 have hw:Go.Conc.woken T.P a a' w' g=if T.ug a a' then g.again w' else g:=by
  unfold Go.Conc.woken dY.ug
  cases mayWake T.P a<;>cases(a'.status != .blocked)<;>cases(a'.status != .waiting)<;>rfl
 rw[hw]
 unfold dY.wake
 cases hc:T.ug a a' with
 |false=>simpa using h0
 |true=>
  simp only[if_true]
  unfold dY.Sits at h0⊢
  cases hs:(x i).seat with
  |«at»s=>
   rw[hs]at h0
   dsimp only[Seat.un]at h0⊢
   rw[again_running _ (.inl (Gj.running (dO.refl H.ry) (λ_ _ _ _=>H.run _ _ _ _ _ _) h0))]
   exact h0
  |quit=>
   rw[hs]at h0
   dsimp only[Seat.un]at h0⊢
   rw[again_running _ h0.2.choose_spec.2.status]
   exact h0
  |blk s=>
   rw[hs]at h0
   dsimp only[Seat.un]at h0⊢
   obtain⟨g0,rfl,h2,h3,h4⟩:=h0
   rw[again_blocked h2 h3]
   exact .stop h4
theorem Np(H:T.Ok)(hp:T.Parts gs w t x){i k:Nat}{es:Array Event}(hk:k<gs.size)(hi:i<gs.size)(hik:k≠i)(h1:(x i).seat≠ .quit)(h2:(x k).seat≠ .quit)(hg:Gn T.Rd T.Sh (i=0) (x i).own w w' es):dO T.Rd T.Ry (x k).own w w':=by
 have hsr:∀b,T.Sh b\/T.Rd b->w'.heap[b]? =w.heap[b]? :=λb hb=>hb.elim (λh=>hg.kept b (hp.ge.zY b h) λho=>hp.ge.sh i b ho h) (λh=>hg.kept b (hp.ge.Nl b h) λho=>hp.ge.rd i b ho h)
 exact⟨⟨hg.tape,hg.os,hg.output,hg.size,λb hb=>hg.kept b (hp.ge.lt k b hb) λho=>hik (hp.ge.apart k i b hb ho)⟩,λb hb=>hsr b (.inr hb),H.other _ _ _ _ _ _ _ hp.pm hi hk hik h1 h2 ⟨hg.tape,hg.os,hg.output,hg.size,hsr⟩⟩
theorem Gp{Rd:Nat->Prop}{Ry:World->World->Prop}(hR:RN Ry)(O:Nat->Prop)(w:World)(d:Nat):dO Rd Ry O w (w.at d):=
 ⟨⟨rfl,rfl,rfl,Nat.le_refl _,λ_ _=>rfl⟩,λ_ _=>rfl,hR.draw w d⟩
theorem dY.Parts.draw(H:T.Ok)(hp:T.Parts gs w t x)(d:Nat):T.Parts gs (w.at d) t x:=
 ⟨λi g hi=>(hp.sits i g hi).rely H (Gp H.ry _ w d),hp.ge,hp.ti,hp.deaf,hp.pos,hp.wk,H.draw _ _ _ _ _ hp.pm,hp.max,H.live w (w.at d) ⟨rfl,rfl,rfl,Nat.le_refl _,λ_ _=>rfl⟩ hp.live,hp.out⟩
theorem dY.Parts.go(H:T.Ok)(hp:T.Parts gs w t x)(hi:gs[i]? =some g){es:Array Event}(y:GR T.Tag)(henv:∀k,k<gs.size->k≠i->(x k).seat≠ .quit->dO T.Rd T.Ry (x k).own w w')(hy:T.Sits i y g' w')(hge:GE T.Sh T.Rd (λk=>(upd (T.wake g g' x) i y k).own) w'.heap.size)
  (hgr:∀b,y.own b->(x i).own b\/w.heap.size<=b) (aiV:∀b,(x i).own b->i≠0->y.own b) (hsz:w.heap.size<=w'.heap.size) (hev:∀e∈es,Il y.own e\/((i=0\/T.n0<=i)/\EvR T.Rd e)\/EvS T.Sh (i=0) e) (hd:y.deaf=deafBehind (x i).deaf es) (hwk:1<=i->y.seat≠ .quit->T.n0<=i)
  (hpm:∀fn pos,T.PM gs.size (λk=>(upd (T.wake g g' x) i y k).seat) w' (t++MemOp.ofEvents i fn pos es)) (hl:T.Live w') (ho:∀b,y.own b->i=0\/T.n0<=i):T.Parts ((gs.map (woken T.P g g' w')).setIfInBounds i g') w' (t++MemOp.ofEvents i g.frame.fn g.frame.place es) (upd (T.wake g g' x) i y):=by
 have hlt:i<gs.size:=(Array.getElem?_eq_some_iff.1 hi).1
 have hsize:((gs.map (woken T.P g g' w')).setIfInBounds i g').size=gs.size:=by simp
 have hown:∀k,(T.wake g g' x k).own=(x k).own:=λk=>by unfold dY.wake;split<;>rfl
 have hdf:∀k,(T.wake g g' x k).deaf=(x k).deaf:=λk=>by unfold dY.wake;split<;>rfl
 refine⟨λj z hj=> ?_,hge,?_,λk hk=> ?_,by rw[hsize];exact hp.pos,λk hk hq=> ?_,by rw[hsize];exact hpm _ _,by rw[hsize];exact hp.max,hl,λk b hb=> ?_⟩
 ·by_cases hji:j=i
  ·subst hji
   rw[Array.getElem?_setIfInBounds_self_of_lt (by simpa using hlt)]at hj
   obtain rfl:=Option.some.inj hj
   rw[upd_same]
   exact hy
  ·rw[Array.getElem?_setIfInBounds_ne (Ne.symm hji),Array.getElem?_map]at hj
   obtain⟨z0,hz,rfl⟩:=Option.map_eq_some_iff.1 hj
   rw[upd_ne _ _ hji]
   exact(hp.sits j z0 hz).woken H (henv j (Array.getElem?_eq_some_iff.1 hz).1 hji) g g'
 ·rw[hsize]
  refine hp.ti.step hge hsz (λk b k1 kj hb=> ?_) (λk b k1 kj hb=> ?_) (by omega) (λe he=> ?_)
  ·by_cases hki:k=i
   ·subst hki;rw[upd_same]at hb;exact hgr b hb
   ·rw[upd_ne _ _ hki,hown]at hb;exact .inl hb
  ·by_cases hki:k=i
   ·subst hki;rw[upd_same];exact aiV b hb (by omega)
   ·rw[upd_ne _ _ hki,hown];exact hb
  ·rw[upd_same];exact hev e he
 ·rw[hsize]at hk
  by_cases hki:k=i
  ·subst hki;rw[upd_same,Deaf_own,hd,hp.deaf _ hk]
  ·rw[upd_ne _ _ hki,hdf,Deaf_other t (g':=i) (λe=>hki e.symm) _ (λop hop=>by obtain⟨e,_,rfl⟩:=Go.Conc.mem_ofEvents hop;rfl)]
   exact hp.deaf k hk
 ·by_cases hki:k=i
  ·subst hki;rw[upd_same]at hq;exact hwk hk hq
  ·rw[upd_ne _ _ hki]at hq
   refine hp.wk k hk λe=>hq ?_
   unfold dY.wake
   split
   ·show(x k).seat.un=_;rw[e];rfl
   ·exact e
 ·rw[hsize]
  by_cases hki:k=i
  ·subst hki;rw[upd_same]at hb;exact⟨hlt,ho b hb⟩
  ·rw[upd_ne _ _ hki,hown]at hb;exact hp.out k b hb
theorem dY.Jy(T:dY)(g g':Goroutine)(x:Nat->GR T.Tag)(k:Nat):(T.wake g g' x k).seat.tag=(x k).seat.tag:=by
 unfold dY.wake;split
 ·exact Seat.VG _
 ·rfl
theorem dY.yw(T:dY)(g g':Goroutine)(x:Nat->GR T.Tag)(k:Nat):(T.wake g g' x k).rank=(x k).rank:=by
 unfold dY.wake;split<;>rfl
theorem dY.BQ(T:dY)(g g':Goroutine)(x:Nat->GR T.Tag)(k:Nat):(T.wake g g' x k).own=(x k).own:=by
 unfold dY.wake;split<;>rfl
theorem dY.Py(hp:gs.size<=T.M+1)(hi:i<gs.size)(y:GR T.Tag)(hs:y.seat.tag=(x i).seat.tag)(hu:i=0->y.seat.up=(x 0).seat.up)(hr:Rk.Ch y.rank (x i).rank):yu T.M (T.mu (upd (T.wake g g' x) i y)) (T.mu x):=by
 have e1:(λk=>(upd (T.wake g g' x) i y k).seat.tag)=λk=>(x k).seat.tag:=by
  funext k
  by_cases hki:k=i
  ·subst hki;rw[upd_same];exact hs
  ·rw[upd_ne _ _ hki];exact T.Jy g g' x k
 unfold dY.mu
 rw[e1]
 rcases Nat.eq_zero_or_pos i with rfl|hpos
 ·have e2:(λk=>(upd (T.wake g g' x) 0 y (k+1)).rank)=λk=>(x (k+1)).rank:=by
   funext k
   rw[upd_ne _ _ (Nat.succ_ne_zero k)]
   exact T.yw g g' x _
  rw[e2,upd_same,hu rfl]
  exact .first hr
 ·refine .other ⟨i-1,by omega,?_,λj hj=> ?_⟩
  ·show Rk.Ch (upd (T.wake g g' x) i y (i-1+1)).rank (x (i-1+1)).rank
   rw[show i-1+1=i by omega,upd_same]
   exact hr
  ·show(upd (T.wake g g' x) i y (j+1)).rank=(x (j+1)).rank
   rw[upd_ne _ _ (by omega)]
   exact T.yw g g' x _
end
end Go.Proofs.YtlncengggmgdgaaGreat.par
namespace Go.Proofs.YtlncengggmgdgaaGreat.par
open Go Go.Conc
section
variable {T : dY} {gs : Array Goroutine} {w w' : World} {t : Trace} {x : Nat → GR T.Tag} {g g' : Goroutine} {i : Nat}
theorem dY.Parts.fork(H:T.Ok)(hp:T.Parts gs w t x)(hi:gs[0]? =some g){child:Goroutine}(y c:GR T.Tag)(hy:T.Sits 0 y g' w)(hc:T.Sits gs.size c child w)
  (hyo:∀b,y.own b->(x 0).own b) (hco:∀b,c.own b->(x 0).own b) (hyc:∀b,y.own b->¬c.own b) (hd:(x 0).deaf=0) (hyd:y.deaf=0) (hcd:c.deaf=0) (hn:T.n0<=gs.size) (hM:gs.size<=T.M)
  (u:Trace) (hu:∃a b:MemOp,u= #[a,b]/\(a.g=0/\a.act=.go gs.size)/\(b.g=gs.size/\b.act=.start))
  (hpm:T.PM (gs.size+1) (λk=>(upd (upd x 0 y) gs.size c k).seat) w (t++u)):T.Parts ((gs.setIfInBounds 0 g').push child) w (t++u) (upd (upd x 0 y) gs.size c):=by
 obtain⟨a,b,rfl,ha,hb⟩:=hu
 have hlt:0<gs.size:=(Array.getElem?_eq_some_iff.1 hi).1
 have hsize:((gs.setIfInBounds 0 g').push child).size=gs.size+1:=by simp
 have hr:∀k,k≠0->k≠gs.size->upd (upd x 0 y) gs.size c k=x k:=λk h1 h2=>by rw[upd_ne _ _ h2,upd_ne _ _ h1]
 have hr0:upd (upd x 0 y) gs.size c 0=y:=by rw[upd_ne _ _ (by omega),upd_same]
 have hrc:upd (upd x 0 y) gs.size c gs.size=c:=upd_same _ _ _
 have hsub:∀k b,(upd (upd x 0 y) gs.size c k).own b->((k=0/\y.own b)\/(k=gs.size/\c.own b)\/(k≠0/\k≠gs.size/\(x k).own b)):=by
  intro k b hb
  by_cases h1:k=0
  ·subst h1;rw[hr0]at hb;exact .inl ⟨rfl,hb⟩
  ·by_cases h2:k=gs.size
   ·subst h2;rw[hrc]at hb;exact .inr (.inl ⟨rfl,hb⟩)
   ·rw[hr k h1 h2]at hb;exact .inr (.inr ⟨h1,h2,hb⟩)
 have acM:∀k b,(upd (upd x 0 y) gs.size c k).own b->∃k',(x k').own b:=by
  intro k b hb
  rcases hsub k b hb with⟨_,h⟩|⟨_,h⟩|⟨_,_,h⟩
  ·exact⟨0,hyo b h⟩
  ·exact⟨0,hco b h⟩
  ·exact⟨k,h⟩
 have hge:GE T.Sh T.Rd (λk=>(upd (upd x 0 y) gs.size c k).own) w.heap.size:=by
  refine⟨λk b hb=> ?_,λk k' b h1 h2=> ?_,λk b hb=> ?_,λk b hb=> ?_,hp.ge.zY,hp.ge.Nl,hp.ge.VD⟩
  ·obtain⟨k',h⟩:=acM k b hb;exact hp.ge.lt k' b h
  ·rcases hsub k b h1 with⟨e1,h1⟩|⟨e1,h1⟩|⟨e1,e1',h1⟩<;>rcases hsub k' b h2 with⟨e2,h2⟩|⟨e2,h2⟩|⟨e2,e2',h2⟩
   ·omega
   ·exact absurd h2 (hyc b h1)
   ·exact absurd (hp.ge.apart 0 k' b (hyo b h1) h2).symm e2
   ·exact absurd h1 (hyc b h2)
   ·omega
   ·exact absurd (hp.ge.apart 0 k' b (hco b h1) h2).symm e2
   ·exact absurd (hp.ge.apart k 0 b h1 (hyo b h2)) e1
   ·exact absurd (hp.ge.apart k 0 b h1 (hco b h2)) e1
   ·exact hp.ge.apart k k' b h1 h2
  ·obtain⟨k',h⟩:=acM k b hb;exact hp.ge.sh k' b h
  ·obtain⟨k',h⟩:=acM k b hb;exact hp.ge.rd k' b h
 have hno:∀op∈(#[a,b]:Array MemOp),op.act≠ .mark .disable/\op.act≠ .mark .enable:=by
  intro op hop
  simp only[List.mem_toArray,List.mem_cons,List.not_mem_nil,or_false]at hop
  rcases hop with rfl|rfl
  ·rw[ha.2];exact⟨by simp,by simp⟩
  ·rw[hb.2];exact⟨by simp,by simp⟩
 refine⟨λj z hj=> ?_,hge,?_,λk hk=> ?_,by rw[hsize];omega,λk hk hq=> ?_,by rw[hsize];exact hpm,by rw[hsize];omega,hp.live,λk b hb=> ?_⟩
 ·rw[Array.getElem?_push]at hj
  split at hj
  ·rename_i e
   obtain rfl:=Option.some.inj hj
   have:j=gs.size:=by simpa using e
   subst this
   rw[hrc]
   exact hc
  ·rename_i e
   have hjn:j≠gs.size:=by simpa using e
   by_cases h1:j=0
   ·subst h1
    rw[Array.getElem?_setIfInBounds_self_of_lt hlt]at hj
    obtain rfl:=Option.some.inj hj
    rw[hr0]
    exact hy
   ·rw[Array.getElem?_setIfInBounds_ne (Ne.symm h1)]at hj
    rw[hr j h1 hjn]
    exact hp.sits j z hj
 ·rw[hsize]
  refine hp.ti.fork hge (λk k1 kj=> ?_) hp.pos ha hb (by rw[hp.deaf 0 hlt,hd])
  rw[hr k (by omega) (by omega)]
 ·rw[hsize]at hk
  rw[Go.ConcN.Deaf_still t k _ hno]
  by_cases h1:k=0
  ·subst h1;rw[hr0,hyd,hp.deaf 0 hlt,hd]
  ·by_cases h2:k=gs.size
   ·subst h2;rw[hrc,hcd];exact hp.ti.absent hp.pos (Nat.le_refl _)
   ·rw[hr k h1 h2];exact hp.deaf k (by omega)
 ·by_cases h2:k=gs.size
  ·omega
  ·rw[hr k (by omega) h2]at hq;exact hp.wk k hk hq
 ·rw[hsize]
  rcases hsub k b hb with⟨e,_⟩|⟨e,_⟩|⟨_,_,h⟩
  ·exact⟨by omega,.inl e⟩
  ·exact⟨by omega,.inr (by omega)⟩
  ·have:=hp.out k b h;exact⟨by omega,this.2⟩
theorem dY.Parts.idle(H:T.Ok)(hp:T.Parts gs w t x)(hi:gs[i]? =some g){es:Array Event}{s:T.Tag}{r:Rk}(hs:(x i).seat=.at s)(hg:T.Gu i s (x i).own w w' es)
  (hn:Gj T.P (i==0) (dO T.Rd T.Ry) (T.Gu i s) (T.Stop i s) r (grow (x i).own w w') (deafBehind (x i).deaf es) g' w'):
  T.Parts ((gs.map (woken T.P g g' w')).setIfInBounds i g') w' (t++MemOp.ofEvents i g.frame.fn g.frame.place es) (upd (T.wake g g' x) i ⟨.at s,r,grow (x i).own w w',deafBehind (x i).deaf es⟩):=by
 have hgt:=H.gu _ _ _ _ _ _ hg
 have hlt:i<gs.size:=(Array.getElem?_eq_some_iff.1 hi).1
 have hsr:∀b,T.Sh b\/T.Rd b->w'.heap[b]? =w.heap[b]? :=λb hb=>hb.elim (λh=>hgt.kept b (hp.ge.zY b h) λho=>hp.ge.sh i b ho h) (λh=>hgt.kept b (hp.ge.Nl b h) λho=>hp.ge.rd i b ho h)
 have hn0:1<=i->T.n0<=i:=λh=>hp.wk i h (by rw[hs];intro e;cases e)
 have hsub:∀k b,(upd (T.wake g g' x) i ⟨.at s,r,grow (x i).own w w',deafBehind (x i).deaf es⟩ k).own b->(x k).own b\/(k=i/\w.heap.size<=b/\b<w'.heap.size):=by
  intro k b hb
  by_cases hki:k=i
  ·subst hki
   rw[upd_same]at hb
   exact hb.imp id λh=>⟨rfl,h⟩
  ·rw[upd_ne _ _ hki,T.BQ]at hb
   exact .inl hb
 refine hp.go H hi _ (λk hk hki hq=>Np H hp hk hlt hki (by rw[hs];intro e;cases e) hq hgt) hn ⟨λk b hb=> ?_,λk k' b h1 h2=> ?_,λk b hb=> ?_,λk b hb=> ?_,λb hb=>Nat.lt_of_lt_of_le (hp.ge.zY b hb) hgt.size,λb hb=>Nat.lt_of_lt_of_le (hp.ge.Nl b hb) hgt.size,hp.ge.VD⟩
  (λb hb=>hb.imp id (·.1)) (λb hb _=>.inl hb) hgt.size (λe he=>(hgt.evs e he).imp id λh=>h.imp (λh=>⟨(Nat.eq_zero_or_pos i).imp id hn0,h⟩) λh=>.inr (.inr h)) rfl (λh _=>hn0 h) (λfn pos=> ?_) (H.live _ _ ⟨hgt.tape,hgt.os,hgt.output,hgt.size,hsr⟩ hp.live) (λb hb=>hb.elim (λh=>(hp.out i b h).2) λ_=>(Nat.eq_zero_or_pos i).imp id hn0)
 ·rcases hsub k b hb with h|⟨_,_,h⟩
  ·exact Nat.lt_of_lt_of_le (hp.ge.lt k b h) hgt.size
  ·exact h
 ·rcases hsub k b h1 with h1|⟨e1,h1,_⟩<;>rcases hsub k' b h2 with h2|⟨e2,h2,_⟩
  ·exact hp.ge.apart k k' b h1 h2
  ·have:=hp.ge.lt k b h1;omega
  ·have:=hp.ge.lt k' b h2;omega
  ·omega
 ·rcases hsub k b hb with h|⟨_,h,_⟩
  ·exact hp.ge.sh k b h
  ·intro hh;have:=hp.ge.zY b hh;omega
 ·rcases hsub k b hb with h|⟨_,h,_⟩
  ·exact hp.ge.rd k b h
  ·intro hh;have:=hp.ge.Nl b hh;omega
 ·have hid:=H.idle gs.size i s (λk=>(x k).seat) (x i).own w w' es t fn pos hlt hs (λb hb=>⟨hp.ge.sh i b hb,hp.ge.rd i b hb⟩) hsr hgt.size (λb hb=>hb.elim (hp.ge.zY b) (hp.ge.Nl b)) hg hp.pm
  have e0:∀k,k=i->(⟨.at s,r,grow (x i).own w w',deafBehind (x i).deaf es⟩:GR T.Tag).seat=(x k).seat:=λk e=>by rw[e,hs]
  cases hm:T.ug g g' with
  |false=>
   have e1:(λk=>(upd (T.wake g g' x) i ⟨.at s,r,grow (x i).own w w',deafBehind (x i).deaf es⟩ k).seat)=λk=>(x k).seat:=by
    funext k
    by_cases hki:k=i
    ·rw[hki,upd_same];exact hs.symm
    ·rw[upd_ne _ _ hki];unfold dY.wake;rw[hm];rfl
   rw[e1];exact hid
  |true=>
   have e1:(λk=>(upd (T.wake g g' x) i ⟨.at s,r,grow (x i).own w w',deafBehind (x i).deaf es⟩ k).seat)=λk=>((x k).seat).un:=by
    funext k
    by_cases hki:k=i
    ·rw[hki,upd_same,hs];rfl
    ·rw[upd_ne _ _ hki];unfold dY.wake;rw[hm];rfl
   rw[e1];exact H.EN _ _ _ _ hid
theorem dY.Parts.slip(H:T.Ok)(hp:T.Parts gs w t x)(hi:gs[i]? =some g){es:Array Event}{n:Nat}(hs:(x i).seat=.quit)(h0:i≠0)(hm:∀e∈es,Event.mute e=true)(hq:QuitsD T.P n (deafBehind (x i).deaf es) g'):
  T.Parts ((gs.map (woken T.P g g' w)).setIfInBounds i g') w (t++MemOp.ofEvents i g.frame.fn g.frame.place es) (upd (T.wake g g' x) i ⟨.quit,Rk.nat n,(x i).own,deafBehind (x i).deaf es⟩):=by
 have hlt:i<gs.size:=(Array.getElem?_eq_some_iff.1 hi).1
 have hown:∀k,(upd (T.wake g g' x) i ⟨.quit,Rk.nat n,(x i).own,deafBehind (x i).deaf es⟩ k).own=(x k).own:=by
  intro k
  by_cases hki:k=i
  ·rw[hki,upd_same]
  ·rw[upd_ne _ _ hki,T.BQ]
 refine hp.go H hi _ (λk _ _ _=>dO.refl H.ry _ _) ⟨h0,n,rfl,hq⟩ ?_ (λb hb=>.inl hb) (λb hb _=>hb) (Nat.le_refl _) (λe he=>.inl ?_) rfl (λ_ h=>absurd rfl h) (λfn pos=> ?_) hp.live (λb hb=>(hp.out i b hb).2)
 ·have:(λk=>(upd (T.wake g g' x) i ⟨.quit,Rk.nat n,(x i).own,deafBehind (x i).deaf es⟩ k).own)=λk=>(x k).own:=funext hown
  rw[this]
  exact hp.ge
 ·have:=hm e he
  obtain⟨loc,wr,sy⟩:=e
  cases loc with
  |mark m=>cases m<;>first|trivial|(simp[Event.mute]at this)
  |_=>simp[Event.mute]at this
 ·have hid:=H.mute gs.size i (λk=>(x k).seat) w es t fn pos hlt h0 hs hm hp.pm
  cases hm:T.ug g g' with
  |false=>
   have e1:(λk=>(upd (T.wake g g' x) i ⟨.quit,Rk.nat n,(x i).own,deafBehind (x i).deaf es⟩ k).seat)=λk=>(x k).seat:=by
    funext k
    by_cases hki:k=i
    ·rw[hki,upd_same];exact hs.symm
    ·rw[upd_ne _ _ hki];unfold dY.wake;rw[hm];rfl
   rw[e1];exact hid
  |true=>
   have e1:(λk=>(upd (T.wake g g' x) i ⟨.quit,Rk.nat n,(x i).own,deafBehind (x i).deaf es⟩ k).seat)=λk=>((x k).seat).un:=by
    funext k
    by_cases hki:k=i
    ·rw[hki,upd_same,hs];rfl
    ·rw[upd_ne _ _ hki];unfold dY.wake;rw[hm];rfl
   rw[e1];exact H.EN _ _ _ _ hid
theorem dY.law(H:T.Ok)(K:Machine->Trace->Prop)(hback:∀m t m' ops,stepT T.P m=(.next m',ops)->K m' (t++ops)->K m t)(fin:T.Tag->Prop)
  (hfin:∀gs w sl t x s,T.Parts gs w t x->(x 0).seat=.at s->fin s->(∀g,gs[0]? =some g->∀w₁,dO T.Rd T.Ry (x 0).own w w₁->T.Stop 0 s (x 0).own (x 0).deaf g w₁)->K (crowd gs w sl) t)
  (acN:∀gs w sl m t x i s g,T.Parts gs w t x->gs[i]? =some g->(x i).seat=.at s->¬(i=0/\fin s)->(∀w₁,dO T.Rd T.Ry (x i).own w w₁->T.Stop i s (x i).own (x i).deaf g w₁)->stepT T.P m=runT T.P (crowd gs w sl) i->
   (∀gs' w' sl' t' x',T.Parts gs' w' t' x'->yu T.M (T.mu x') (T.mu x)->K (crowd gs' w' sl') t')->K m t):
  ∀x gs w sl t,T.Parts gs w t x->K (crowd gs w sl) t:=by
 have key:∀μ:Mu,∀x gs w sl t,T.mu x=μ->T.Parts gs w t x->K (crowd gs w sl) t:=by
  intro μ
  induction μ using(Zg T.M).induction with
  |_ μ ih=>
  intro x gs w sl t hμ hp
  subst hμ
  by_cases hF:∃s,(x 0).seat=.at s/\fin s/\(∀g,gs[0]? =some g->∀w₁,dO T.Rd T.Ry (x 0).own w w₁->T.Stop 0 s (x 0).own (x 0).deaf g w₁)
  ·obtain⟨s,h1,h2,h3⟩:=hF
   exact hfin gs w sl t x s hp h1 h2 h3
  have haw:∀g∈gs,awake g:=by
   intro g hg
   obtain⟨i,hi,rfl⟩:=Array.mem_iff_getElem.1 hg
   rcases(hp.sits i _ (Array.getElem?_eq_getElem hi)).state H with(h|h)|⟨_,h⟩
   ·exact awake_of (.inl h)
   ·exact awake_of (.inr (.inr h))
   ·exact awake_of (.inr (.inl h))
  have hrun1:∃(i:Nat)(g:Goroutine),gs[i]? =some g/\g.status=.running:=by
   obtain⟨i,s,hi,hs⟩:=H.some1 _ _ _ _ hp.pm
   refine⟨i,gs[i],Array.getElem?_eq_getElem hi,?_⟩
   have:=hp.sits i _ (Array.getElem?_eq_getElem hi)
   unfold dY.Sits at this
   rw[hs]at this
   exact Gj.running (dO.refl H.ry) (λ_ _ _ _=>H.run _ _ _ _ _ _) this
  obtain⟨i,g,d,sl',hi,hg,hst⟩:=crowd_pick (P:=T.P) (w:=w) (sl:=sl) haw hrun1
  have hlt:i<gs.size:=(Array.getElem?_eq_some_iff.1 hi).1
  have hpd:=hp.draw H d
  have hsit:=hp.sits i g hi
  have hE:dO T.Rd T.Ry (x i).own w (w.at d):=Gp H.ry _ w d
  unfold dY.Sits at hsit
  cases oJ:(x i).seat with
  |«at»s=>
   rw[oJ]at hsit
   dsimp only at hsit
   generalize hr:(x i).rank=r at hsit
   cases hsit with
   |stop hS=>
    refine acN gs (w.at d) sl' _ t x i s g hpd hi oJ (λ⟨e,hf⟩=> ?_) (λw₁ h₁=>hS _ (dO.trans H.ry _ _ _ _ hE h₁)) hst λgs' w' sl'' t' x' hp' hlt'=>ih _ hlt' x' gs' w' sl'' t' rfl hp'
    subst e
    exact hF ⟨s,oJ,hf,λg' hg'=>by rw[hi]at hg';cases hg';exact hS⟩
   | @step rf _ _ _ _ hrn g' w' es hgo hgu hih=>
    have h1:=runT_crowd_go (P:=T.P) (sl:=sl') (i:=i) hi (hgo (w.at d) hE)
    have hp':=hpd.idle H hi oJ (hgu _ hE) (hih _ hE)
    exact hback _ _ _ _ (hst.trans h1) (ih _ (T.Py hp.max hlt _ (by rw[oJ]) (λe=>by subst e;rw[oJ]) (by rw[hr];exact .mk rf _)) _ _ _ _ _ rfl hp')
  |quit=>
   rw[oJ]at hsit
   dsimp only at hsit
   obtain⟨h0,n,hrk,hq⟩:=hsit
   cases n with
   |zero=>rw[hq.1]at hg;cases hg
   |succ n=>
    rcases hq with⟨hf,_⟩|⟨_,g',es,hm,hstp,hq'⟩
    ·rw[hf]at hg;cases hg
    have hi0:(i==0)=false:=by simpa using h0
    have h1:=runT_crowd_go (P:=T.P) (sl:=sl') (i:=i) hi (by rw[hi0];exact hstp (w.at d))
    have hp':=hpd.slip H hi oJ h0 hm hq'
    exact hback _ _ _ _ (hst.trans h1) (ih _ (T.Py hp.max hlt _ (by rw[oJ]) (λe=>absurd e h0) (by rw[hrk];exact Rk.acJ n)) _ _ _ _ _ rfl hp')
  |blk s=>
   rw[oJ]at hsit
   obtain⟨g0,h1,_⟩:=hsit
   rw[h1]at hg
   cases hg
 exactλx gs w sl t hp=>key _ x gs w sl t rfl hp
end
end Go.Proofs.YtlncengggmgdgaaGreat.par
namespace Go.Proofs.YtlncengggmgdgaaGreat.par
open Go Go.Conc
def jk:Nat->Prop:=λ_=>False
def Ry1(w w₁:World):Prop:=w₁.heap=w.heap
theorem Lu:RN Ry1:=⟨λ_=>rfl,λ_ _ _ h k=>Eq.trans k h,λ_ _=>rfl⟩
abbrev qJ:(Nat->Prop)->World->World->Prop:=dO jk Ry1
def Av(U:Nat->Prop)(es:Array Event):Prop:=∀e∈es,(∀x,(MemAct.ofEvent e).touch?=some x->¬inB U x.loc)/\∀a,MemAct.ofEvent e=.mark (.release a)->¬U a.block
def Zl(U:Nat->Prop)(t:Trace):Prop:=∀op∈t,(∀x,op.act.touch?=some x->¬inB U x.loc)/\∀a,op.act=.mark (.release a)->¬U a.block
theorem Zl.app{U:Nat->Prop}{t:Trace}(h:Zl U t){i:Nat}{fn:FuncId}{pos:String}{es:Array Event}(he:Av U es):Zl U (t++MemOp.ofEvents i fn pos es):=λop hop=>(Array.mem_append.1 hop).elim (λhop=>h op hop) λhop=>by
 obtain⟨e,h1,rfl⟩:=Go.Conc.mem_ofEvents hop
 exact he e h1
theorem VH{e:Event}(h:Event.mute e=true)(a:Addr):MemAct.ofEvent e≠ .mark (.release a):=by
 obtain⟨loc,wr,sy⟩:=e
 intro hh
 cases loc with
 |mark m=>
  have e1:m=.release a:=by
   have:MemAct.ofEvent ⟨.mark m,wr,sy⟩=.mark m:=rfl
   rw[this]at hh
   injection hh
  subst e1
  simp[Event.mute]at h
 |_=>cases wr<;>cases sy<;>cases hh
abbrev Gu1:(Nat->Prop)->World->World->Array Event->Prop:=Gn jk jk ((0:Nat)=0)
structure pU(P:Program)(S:Nat->Prop)(gs:Array Goroutine)(w:World)(t:Trace)(O:Nat->Prop)(q:Nat->Nat):Prop where
 old:∀i g,i≠0->gs[i]? =some g->QuitsD P (q i) (Deaf t i) g
 ge:GE S jk (λk b=>k=0/\O b) w.heap.size
 ti:TI S jk 1 gs.size (λk b=>k=0/\O b) w.heap.size t
 hear:Deaf t 0=0
 pos:1<=gs.size
 over:t.HandedOver
def abR(P:Program)(M:Nat)(S U:Nat->Prop)(Fin:(Nat->Prop)->Goroutine->World->Prop):dY where
 P:=P
 Tag:=Unit
 n0:=M+1
 M:=M
 Sh:=S
 Rd:=jk
 Live:=λ_=>True
 Ry:=Ry1
 Stop:=λ_ _ O d g w=>d=0/\g.status=.running/\Fin O g w
 Gu:=λi _ O w w' es=>Gn jk jk (i=0) O w w' es/\Av U es
 phi:=λ_=>0
 PM:=λN se _ t=>t.HandedOver/\se 0=.at ()/\1<=N/\(∀k,1<=k->k<N->se k=.quit)/\Zl U t
theorem VI(P:Program)(M:Nat)(S U:Nat->Prop)(Fin:(Nat->Prop)->Goroutine->World->Prop):(abR P M S U Fin).Ok:=by
 refine⟨Nat.succ_le_succ (Nat.zero_le _),Lu,λN se w w' t i k h hi hk hne h1 h2 _=> ?_,λ_ _ _ _ _ _⟨h,_⟩=>⟨h.tape,h.os,h.output,h.size,h.kept,λe he=>(h.evs e he).imp id λh=>h.imp id λh=>⟨h.1,h.2.elim (λ⟨_,_,k⟩=>k.elim) λh=>h.elim (λ⟨_,_,k⟩=>k.elim) λh=>.inr (.inr h)⟩⟩,λ_ _ _ _ _ _ h=>h.2.1,λ_ _ _ _=>trivial,?_,?_,λN se w d t h=>h,?_,λN se w t h=>⟨0,(),h.2.2.1,h.2.1⟩⟩
 ·exfalso
  have z:∀j,j<N->se j≠ .quit->j=0:=λj hj hq=>by
   rcases Nat.eq_zero_or_pos j with h0|h0
   ·exact h0
   ·exact absurd (h.2.2.2.1 j h0 hj) hq
  exact hne ((z k hk h2).trans (z i hi h1).symm)
 ·intro N i s se O w w' es t fn pos hi hs _ _ _ _ hg h
  have h0:i=0:=by
   rcases Nat.eq_zero_or_pos i with h0|h0
   ·exact h0
   ·rw[h.2.2.2.1 i h0 hi]at hs;cases hs
  subst h0
  exact⟨handedOver_app h.1 λop hop=>by obtain⟨e,_,rfl⟩:=Go.Conc.mem_ofEvents hop;exact .inl rfl,h.2.1,h.2.2.1,h.2.2.2.1,h.2.2.2.2.app hg.2⟩
 ·intro N i se w es t fn pos hi h0 hs hm h
  exact⟨handedOver_app h.1 λop hop=>by obtain⟨e,he,rfl⟩:=Go.Conc.mem_ofEvents hop;exact .inr (touch_mute (hm e he)),h.2.1,h.2.2.1,h.2.2.2.1,h.2.2.2.2.app λe he=>⟨(λx hx=>by rw[touch_mute (hm e he)]at hx;cases hx),λa ha=>absurd ha (VH (hm e he) a)⟩⟩
 ·intro N se w t h
  refine⟨h.1,?_,h.2.2.1,λk k1 kN=> ?_,h.2.2.2.2⟩
  ·show(se 0).un=_;rw[h.2.1];rfl
  ·show(se k).un=_;rw[h.2.2.2.1 k k1 kN];rfl
section
variable {P : Program} {S : Nat → Prop}
theorem pU.reO{gs:Array Goroutine}{w:World}{t:Trace}{O O':Nat->Prop}{q:Nat->Nat}(h:pU P S gs w t O q)(h1:∀b,O' b->b<w.heap.size)(h2:∀b,O' b->¬S b):pU P S gs w t O' q:=
 ⟨h.old,⟨λk b hb=>h1 b hb.2,λk k' b ha hb=>by rw[ha.1,hb.1],λk b hb=>h2 b hb.2,λ_ _ _ h=>h,h.ge.zY,λ_ h=>h.elim,λ_ h=>h.elim⟩,h.ti.VF (λk b k1 _ hb=>by omega) (λk b k1 _ hb=>by omega) (Nat.le_refl _),h.hear,h.pos,h.over⟩
theorem uN(K:Machine->Trace->Prop)(hback:∀m t m' ops,stepT P m=(.next m',ops)->K m' (t++ops)->K m t)(U:Nat->Prop)(Fin:(Nat->Prop)->Goroutine->World->Prop)
  (hfin:∀gs w sl t O q a,pU P S gs w t O q->Zl U t->gs[0]? =some a->a.status=.running->(∀w₁,qJ O w w₁->Fin O a w₁)->K (crowd gs w sl) t) (gs:Array Goroutine) (w:World) (sl:Option (Nat×Nat)) (t:Trace) (O:Nat->Prop) (q:Nat->Nat) (a:Goroutine)
  (hc:pU P S gs w t O q) (hu:Zl U t) (ha:gs[0]? =some a) (hO:OT P true qJ (λO w w' es=>Gu1 O w w' es/\Av U es) (λO d g w=>d=0/\g.status=.running/\Fin O g w) O 0 a w):K (crowd gs w sl) t:=by
 have hlt:0<gs.size:=hc.pos
 obtain⟨r,hr⟩:=hO.BO
 let T:=abR P gs.size S U Fin
 let x:Nat->GR Unit:=λk=>if k=0 then⟨.at (),r,O,0⟩else⟨.quit,Rk.nat (q k),jk,Deaf t k⟩
 have hown:(λk=>(x k).own)=λk b=>k=0/\O b:=by
  funext k b
  by_cases hk:k=0
  ·simp[x,hk]
  ·simp[x,hk,jk]
 have hp:T.Parts gs w t x:=by
  refine⟨λi g hi=> ?_,?_,?_,λk hk=> ?_,hc.pos,λk k1 hq=> ?_,?_,Nat.le_succ _,trivial,λk b hb=> ?_⟩
  ·by_cases h0:i=0
   ·subst h0
    rw[ha]at hi
    obtain rfl:=Option.some.inj hi
    exact hr
   ·show T.Sits i (x i) g w
    simp only[x,if_neg h0]
    exact⟨h0,q i,rfl,hc.old i g h0 hi⟩
  ·rw[hown];exact hc.ge
  ·rw[hown]
   refine⟨⟨hc.ti.ct.quiet,hc.ti.ct.own,λk _ _ l hl=> ?_,λl hs hl=>hc.ti.ct.free l hs λk k1 kj=>⟨(hl k k1 kj).1,λh=> ?_⟩,hc.ti.ct.mine,hc.ti.ct.nr,hc.ti.ct.gs⟩,hc.ti.seen⟩
   ·obtain⟨b,h,_⟩:=inB.two hl.2 hl.2;exact h.elim
   ·obtain⟨b,h,_⟩:=inB.two h.2 h.2;exact h.elim
  ·by_cases h0:k=0
   ·subst h0;exact hc.hear
   ·simp[x,h0]
  ·exact absurd (show(x k).seat=.quit from by simp only[x,if_neg (show k≠0 by omega)]) hq
  ·exact⟨hc.over,rfl,hc.pos,λk k1 _=>by
    show(x k).seat=_
    simp only[x,if_neg (show k≠0 by omega)],hu⟩
  ·by_cases h0:k=0
   ·exact⟨by omega,.inl h0⟩
   ·simp[x,h0,jk]at hb
 refine T.law (VI P gs.size S U Fin) K hback (λ_=>True) (λgs' w' sl' t' x' s hp' hs' _ hS=> ?_) (λgs' w' sl' m t' x' i s g hp' hi hs' hn hS hst _=> ?_) x gs w sl t hp
 ·have h0':0<gs'.size:=hp'.pos
  have hq:∀k,1<=k->k<gs'.size->(x' k).seat=.quit:=hp'.pm.2.2.2.1
  have hSt:=hS gs'[0] (Array.getElem?_eq_getElem h0')
  have hd:(x' 0).deaf=0:=(hSt w' (dO.refl Lu _ _)).1
  have hO2:∀k b,(x' k).own b->k=0:=λk b hb=>by
   have h1:=hp'.out k b hb
   have h2:gs'.size<=gs.size+1:=hp'.max
   rcases h1.2 with h|h
   ·exact h
   ·have h3:gs.size+1<=k:=h
    omega
  refine hfin gs' w' sl' t' (x' 0).own (λk=>if h:k≠0/\k<gs'.size then(show∃n,(x' k).rank=Rk.nat n/\QuitsD P n (x' k).deaf gs'[k]from by
    have h4:=hp'.sits k _ (Array.getElem?_eq_getElem h.2)
    unfold dY.Sits at h4
    rw[hq k (by omega) h.2]at h4
    exact h4.2).choose else 0) gs'[0] ⟨λi g h0 hi=> ?_,?_,?_,?_,hp'.pos,hp'.pm.1⟩ hp'.pm.2.2.2.2 (Array.getElem?_eq_getElem h0') (hSt w' (dO.refl Lu _ _)).2.1 (λw₁ hw=>(hSt w₁ hw).2.2)
  ·have hil:i<gs'.size:=(Array.getElem?_eq_some_iff.1 hi).1
   obtain rfl:gs'[i]=g:=(Array.getElem?_eq_some_iff.1 hi).2
   rw[dif_pos ⟨h0,hil⟩,hp'.deaf i hil]
   exact Exists.choose_spec (p:=λn=>(x' i).rank=Rk.nat n/\QuitsD P n (x' i).deaf gs'[i]) _|>.2
  ·exact⟨λk b hb=>hp'.ge.lt 0 b hb.2,λk k' b h1 h2=>by rw[h1.1,h2.1],λk b hb=>hp'.ge.sh 0 b hb.2,λ_ _ _ h=>h,hp'.ge.zY,λ_ h=>h.elim,λ_ h=>h.elim⟩
  ·refine⟨⟨hp'.ti.ct.quiet,λk k1 _ l hl=> ?_,λk _ _ l hl=> ?_,λl hs hl=>hp'.ti.ct.free l hs λk k1 kj=>⟨λh=> ?_,λh=> ?_⟩,λl hs hl=>hp'.ti.ct.mine l hs λk k1 kj h=> ?_,hp'.ti.ct.nr,hp'.ti.ct.gs⟩,hp'.ti.seen⟩
   ·obtain⟨b,h,_⟩:=inB.two hl hl;omega
   ·obtain⟨b,h,_⟩:=inB.two hl.2 hl.2;exact h.elim
   ·obtain⟨b,h,_⟩:=inB.two h h;have:=hO2 k b h;omega
   ·obtain⟨b,h,_⟩:=inB.two h.2 h.2;exact h.elim
   ·obtain⟨b,h,_⟩:=inB.two h h;have:=hO2 k b h;omega
  ·rw[hp'.deaf 0 h0',hd]
 ·have hil:i<gs'.size:=(Array.getElem?_eq_some_iff.1 hi).1
  rcases Nat.eq_zero_or_pos i with h0|h0
  ·exact absurd ⟨h0,trivial⟩ hn
  ·have:(x' i).seat=.quit:=hp'.pm.2.2.2.1 i h0 hil
   rw[this]at hs'
   cases hs'
end
end Go.Proofs.YtlncengggmgdgaaGreat.par
