/- A goroutine's own tree, in whatever company. No conditions. -/
import Derived.Test.YtlncengggmgdgaaGreatG08
import Derived.Conc.Deaf
import Derived.Conc.QuitsD
import Derived.Conc.Beside
set_option linter.unusedVariables false
set_option linter.unusedSimpArgs false
namespace Go.Proofs.YtlncengggmgdgaaGreat.par
open Go Go.Conc
def grow(O:Nat->Prop)(w w':World):Nat->Prop:=λb=>O b\/(w.heap.size<=b/\b<w'.heap.size)
def Il(O:Nat->Prop)(e:Event):Prop:=
 match e.loc with
 | .cell a=>O a.block
 | .obj b=>O b
 | .mark (.acquire a)| .mark (.release a)| .mark (.releaseMerge a)| .mark (.read a)| .mark (.write a)=>O a.block
 | .mark _=>True
 |_=>False
structure pR(O:Nat->Prop)(w w₁:World):Prop where
 tape:w₁.tape=w.tape
 os:w₁.os=w.os
 output:w₁.output=w.output
 size:w.heap.size<=w₁.heap.size
 own:∀b,O b->w₁.heap[b]? =w.heap[b]?
structure Vx(O:Nat->Prop)(w w':World)(es:Array Event):Prop where
 tape:w'.tape=w.tape
 os:w'.os=w.os
 output:w'.output=w.output
 size:w.heap.size<=w'.heap.size
 kept:∀b,b<w.heap.size->¬O b->w'.heap[b]? =w.heap[b]?
 evs:∀e∈es,Il (grow O w w') e
inductive OT(P:Program)(main:Bool)(Env:(Nat->Prop)->World->World->Prop)(Gu:(Nat->Prop)->World->World->Array Event->Prop)(Stop:(Nat->Prop)->Nat->Goroutine->World->Prop):(Nat->Prop)->Nat->Goroutine->World->Prop
 |stop {O:Nat->Prop} {d:Nat} {g:Goroutine} {w:World} (h:∀w₁,Env O w w₁->Stop O d g w₁):OT P main Env Gu Stop O d g w
 |step {O:Nat->Prop} {d:Nat} {g:Goroutine} {w:World} (hr:g.status=.running) (g':World->Goroutine) (w':World->World) (es:World->Array Event) (h:∀w₁,Env O w w₁->stepG P main g w₁=.go (g' w₁) (w' w₁) (es w₁)) (hg:∀w₁,Env O w w₁->Gu O w₁ (w' w₁) (es w₁))
   (ih:∀w₁,Env O w w₁->OT P main Env Gu Stop (grow O w₁ (w' w₁)) (deafBehind d (es w₁)) (g' w₁) (w' w₁)):OT P main Env Gu Stop O d g w
section
variable {P : Program} {main : Bool} {Env : (Nat → Prop) → World → World → Prop} {Gu : (Nat → Prop) → World → World → Array Event → Prop} {Stop Stop' : (Nat → Prop) → Nat → Goroutine → World → Prop}
theorem OT.mk{O:Nat->Prop}{d:Nat}{g:Goroutine}{w:World}(hr:g.status=.running)(h:∀w₁,Env O w w₁->∃g' w' es,stepG P main g w₁=.go g' w' es/\Gu O w₁ w' es/\OT P main Env Gu Stop (grow O w₁ w') (deafBehind d es) g' w'):OT P main Env Gu Stop O d g w:=by
 classical
 refine .step hr (λw₁=>if h0:Env O w w₁ then(h w₁ h0).choose else g) (λw₁=>if h0:Env O w w₁ then(h w₁ h0).choose_spec.choose else w₁) (λw₁=>if h0:Env O w w₁ then(h w₁ h0).choose_spec.choose_spec.choose else #[]) (λw₁ h0=> ?_) (λw₁ h0=> ?_) (λw₁ h0=> ?_)
 ·simp only[dif_pos h0];exact(h w₁ h0).choose_spec.choose_spec.choose_spec.1
 ·simp only[dif_pos h0];exact(h w₁ h0).choose_spec.choose_spec.choose_spec.2.1
 ·simp only[dif_pos h0];exact(h w₁ h0).choose_spec.choose_spec.choose_spec.2.2
theorem OT.bind{O:Nat->Prop}{d:Nat}{g:Goroutine}{w:World}(h:OT P main Env Gu Stop O d g w)(hrefl:∀O w,Env O w w)(hs:∀O d g w,Stop O d g w->OT P main Env Gu Stop' O d g w):OT P main Env Gu Stop' O d g w:=by
 induction h with
 |stop h=>exact hs _ _ _ _ (h _ (hrefl _ _))
 |step hr g' w' es h hg _ ih=>exact .step hr g' w' es h hg ih
theorem OT.rely{O:Nat->Prop}{d:Nat}{g:Goroutine}{w w₁:World}(htr:∀O a b c,Env O a b->Env O b c->Env O a c)(h:OT P main Env Gu Stop O d g w)(he:Env O w w₁):OT P main Env Gu Stop O d g w₁:=by
 cases h with
 |stop h=>exact .stop λw₂ h₂=>h w₂ (htr _ _ _ _ he h₂)
 |step hr g' w' es h hg ih=>exact .step hr g' w' es (λw₂ h₂=>h w₂ (htr _ _ _ _ he h₂)) (λw₂ h₂=>hg w₂ (htr _ _ _ _ he h₂)) (λw₂ h₂=>ih w₂ (htr _ _ _ _ he h₂))
end
theorem pR.refl(O:Nat->Prop)(w:World):pR O w w:=⟨rfl,rfl,rfl,Nat.le_refl _,λ_ _=>rfl⟩
theorem pR.trans(O:Nat->Prop)(a b c:World)(h:pR O a b)(k:pR O b c):pR O a c:=⟨k.tape.trans h.tape,k.os.trans h.os,k.output.trans h.output,Nat.le_trans h.size k.size,λx hx=>(k.own x hx).trans (h.own x hx)⟩
def img(σ:Nat->Nat)(D:Nat->Prop):Nat->Prop:=λb=>∃r,D r/\b=σ r
section
variable {σ σ1 : Nat → Nat} {D D1 : Nat → Prop} {T : Tables} {W0 u w u1 w1 : World} {es : Array Event}
theorem Sit.env(h:Sit σ D T W0 u w){w₁:World}(he:pR (img σ D) w w₁):Sit σ D T W0 u w₁:=by
 have hb:∀r,D r->w₁.heap[σ r]? =w.heap[σ r]? :=λr hr=>he.own _ ⟨r,hr,rfl⟩
 refine⟨⟨λr o hr ho=> ?_,λr hr hle=> ?_,h.wr.low,λa ha hlt z hz hc=> ?_,h.wr.os.trans he.os.symm⟩,h.inj,h.glob,h.bound,h.gu,Nat.le_trans h.gw he.size⟩
 ·obtain⟨o',h1,h2⟩:=h.wr.obj r o hr ho
  exact⟨o',by rw[hb r hr];exact h1,h2⟩
 ·have:=h.bound r hr;omega
 ·rw[<-h.wr.orig a ha hlt z hz hc]
  unfold World.cell?
  dsimp only
  rw[hb _ ha]
theorem Moved.own(h:Moved T W0 σ D u w σ1 D1 u1 w1 es)(hs:Sit σ D T W0 u w)(b:Nat):img σ1 D1 b↔grow (img σ D) w w1 b:=by
 have ht:=h.turned.size
 have hlu:=h.turned.lone.size
 constructor
 ·rintro⟨r,hr,rfl⟩
  rcases h.fresh r hr with h0|⟨h1,h2⟩
  ·exact .inl ⟨r,h0,(h.up r h0).2⟩
  ·have:=h.sit.bound r hr
   exact .inr ⟨by omega,by omega⟩
 ·rintro(⟨r,hr,rfl⟩|⟨h1,h2⟩)
  ·exact⟨r,(h.up r hr).1,(h.up r hr).2.symm⟩
  ·obtain⟨h3,h4⟩:=h.made (b-w.heap.size) (by omega)
   exact⟨_,h3,by rw[h4];omega⟩
theorem uf.own{σ:Nat->Nat}{D:Nat->Prop}{e:Event}(h:uf σ D e):Il (img σ D) e:=by
 unfold uf at h
 unfold Il
 split at h
 ·rename_i a ha
  rw[ha]
  exact h
 ·rename_i b hb
  rw[hb]
  exact h
 ·rename_i m hm
  rw[hm]
  obtain⟨m',hm'⟩:=h
  cases hm' with
  |acquire h=>exact⟨_,h.1,by rw[h.2]⟩
  |release h=>exact⟨_,h.1,by rw[h.2]⟩
  |releaseMerge h=>exact⟨_,h.1,by rw[h.2]⟩
  |extern f=>trivial
  |noRoom=>trivial
 ·exact h.elim
theorem Il.mono{O O':Nat->Prop}(h:∀b,O b->O' b){e:Event}(he:Il O e):Il O' e:=by
 unfold Il at he⊢
 split at he<;>first|exact h _ he|exact he|exact he.elim
theorem Moved.gu(h:Moved T W0 σ D u w σ1 D1 u1 w1 es)(hs:Sit σ D T W0 u w):Vx (img σ D) w w1 es:=by
 have ht:=h.turned.size
 have hlu:=h.turned.lone.size
 refine⟨h.turned.tape,h.turned.os,h.turned.output,by omega,λb hb hn=>h.turned.kept b hb (λr hr hlt e=> ?_),λe he=>(h.evs e he).own.mono (λb hb=>(h.own hs b).1 hb)⟩
 rcases h.fresh r hr with h0|⟨h1,_⟩
 ·exact hn ⟨r,h0,by rw[<-(h.up r h0).2];exact e.symm⟩
 ·omega
end
end Go.Proofs.YtlncengggmgdgaaGreat.par
namespace Go.Proofs.YtlncengggmgdgaaGreat.par
open Go Go.Conc
abbrev LS:=Frame×List Frame×World
section
variable {P : Program} {tl : List Frame} {R : FuncId → Value → World → Prop}
theorem LT.tape{fr:Frame}{cs:List Frame}{u:World}(h:LT P tl R fr cs u)(τ:Nat->Question->Nat):LT P tl R fr cs (tp u τ):=by
 cases h with
 | @stop _ _ v τ1 hl hr=>exact .stop (u:=tp u τ) (τ:=τ1) hl hr
 |step hn f c v h ih=>exact .step (u:=tp u τ) hn f c v h ih
def mV(P:Program)(tl:List Frame)(s2 s:LS):Prop:=¬gJ s.1 s.2.1/\∃τ,Ls P tl s.1 s.2.1 s.2.2 τ s2.1 s2.2.1 s2.2.2
theorem Jt{fr jA fr3:Frame}{cs cs2 cs3:List Frame}{u u2 u3:World}{τ:Nat->Question->Nat}(h:Ls P tl fr cs u τ jA cs2 u2)(k:Ls P tl fr cs u τ fr3 cs3 u3):fr3=jA/\cs3=cs2/\u3=tp u2 u3.tape:=by
 obtain⟨_,es,h⟩:=h
 obtain⟨_,es2,k⟩:=k
 have h1:=h τ (λ_ _ _=>rfl)
 rw[k τ (λ_ _ _=>rfl)]at h1
 injection h1 with h1 h2 _
 have h3:fr3=jA:=congrArg Goroutine.frame h1
 have h4:cs3++tl=cs2++tl:=congrArg Goroutine.callers h1
 refine⟨h3,List.append_cancel_right h4,?_⟩
 have h5:tp (tp u3 τ) u3.tape=tp (tp u2 τ) u3.tape:=congrArg (λw=>tp w u3.tape) h2
 exact h5
theorem LT.next{s s2:LS}(h:LT P tl R s.1 s.2.1 s.2.2)(hd:mV P tl s2 s):LT P tl R s2.1 s2.2.1 s2.2.2:=by
 obtain⟨fr,cs,u⟩:=s
 obtain⟨jA,cs2,u2⟩:=s2
 obtain⟨hn,τ,hg⟩:=hd
 dsimp only at h hn hg⊢
 cases h with
 |stop hl hr=>exact absurd ⟨rfl,by rw[hl.1];exact FrameMode.noConfusion,hl.2.1⟩ hn
 |step _ f c v h ih=>
  obtain⟨e1,e2,e3⟩:=Jt (h τ) hg
  rw[e1,e2,e3]
  exact(ih τ).tape _
theorem LT.aeZ{s s2:LS}(h:LT P tl R s.1 s.2.1 s.2.2)(hd:Relation.TransGen (mV P tl) s2 s):LT P tl R s2.1 s2.2.1 s2.2.2:=by
 induction hd with
 |single h1=>exact h.next h1
 |tail _ h1 ih=>exact ih (h.next h1)
theorem EK{fr:Frame}{cs:List Frame}{u:World}(h:LT P tl R fr cs u):∀τ,Acc (mV P tl) (fr,cs,tp u τ):=by
 induction h with
 |stop hl hr=>
  intro τ
  refine Acc.intro _ λs2 hd=> ?_
  exact absurd ⟨rfl,by rw[hl.1];exact FrameMode.noConfusion,hl.2.1⟩ hd.1
 |step hn f c v h _ ih=>
  intro τ
  refine Acc.intro _ λs2 hd=> ?_
  obtain⟨jA,cs2,u2⟩:=s2
  obtain⟨_,τ1,hg⟩:=hd
  obtain⟨e1,e2,e3⟩:=Jt (h τ1) hg
  dsimp only at e1 e2 e3
  rw[e1,e2,e3]
  exact ih τ1 _
end
section
variable {T : Tables} {F' F : Array Func} {Sp : FuncId → Prop} {main : Bool} {Env : (Nat → Prop) → World → World → Prop} {Gu : (Nat → Prop) → World → World → Array Event → Prop} {Fin : (Nat → Prop) → Nat → Goroutine → World → Prop} {W0 : World} {tl tail : List Frame} {R : FuncId → Value → World → Prop}
structure Rel(T:Tables)(F' F:Array Func)(Sp:FuncId->Prop)(W0:World)(σ:Nat->Nat)(D:Nat->Prop)(s:LS)(fr:Frame)(cs:List Frame)(w:World):Prop where
 sit:Sit σ D T W0 s.2.2 w
 fr:jf σ D T Sp F' F s.1 fr
 cs:LR (jf σ D T Sp F' F) s.2.1 cs
 bot:xP (s.1::s.2.1)
structure ae0(T:Tables)(F' F:Array Func)(Sp:FuncId->Prop)(W0:World)(σ:Nat->Nat)(D:Nat->Prop)(f:FuncId)(a a':Array Value)(kind:CallKind)(s:LS)(fr:Frame)(cs:List Frame)(w:World):Prop where
 sp:Sp f
 both:Both F' F f
 kinds:kind=.normal\/kind=.deferred
 args:dI σ D a a'
 rel:Rel T F' F Sp W0 σ D s fr cs w
 deferred:kind=.deferred->fr.mode≠ .run
 normal:kind=.normal->fr.mode=.run
 abP:kind=.deferred->nd f=false
 size:nd f=true->a.size=2
theorem oG{σ:Nat->Nat}{D:Nat->Prop}{es:Array Event}(h:∀e∈es,uf σ D e):∀e∈es,e.loc≠ .mark .disable/\e.loc≠ .mark .enable:=by
 intro e he
 have:=h e he
 unfold uf at this
 constructor
 ·intro hl
  rw[hl]at this
  obtain⟨m,hm⟩:=this
  cases hm
 ·intro hl
  rw[hl]at this
  obtain⟨m,hm⟩:=this
  cases hm
theorem transfer(hq:Quiet tl/\Quiet tail)(hGo:pn Sp->∀(O:Nat->Prop)(w w':World)(es es2:Array Event),Vx O w w' es->(∀e∈es2,e∈es\/e.loc=.output)->(∀e∈es2,e.loc≠ .mark .disable/\e.loc≠ .mark .enable)->Gu O w w' es2)(J:(Nat->Nat)->(Nat->Prop)->Prop)(hJ:∀σ D σ1 D1,Up σ D σ1 D1->J σ D->J σ1 D1)(hz:ZP T)(hB:vZ T Sp F' F)(hE:∀O w w₁,Env O w w₁->pR O w w₁)(hrefl:∀O w,Env O w w)(hG:∀O w w' es,Vx O w w' es->(∀e∈es,e.loc≠ .mark .disable/\e.loc≠ .mark .enable)->Gu O w w' es)
  (s0:LS) (hfin:∀σ D s fr cs w,J σ D->(s=s0\/Relation.TransGen (mV ⟨T,F'⟩ tl) s s0)->LT ⟨T,F'⟩ tl R s.1 s.2.1 s.2.2->Rel T F' F Sp W0 σ D s fr cs w->gJ s.1 s.2.1->OT ⟨T,F⟩ main Env Gu Fin (img σ D) 0 (G fr (cs++tail)) w)
  (hspec:∀σ D f a a' kind s fr cs w,J σ D->Relation.TransGen (mV ⟨T,F'⟩ tl) (Frame.enter ⟨T,F'⟩ f a kind,s.1::s.2.1,s.2.2) s0->LT ⟨T,F'⟩ tl R (Frame.enter ⟨T,F'⟩ f a kind) (s.1::s.2.1) s.2.2->ae0 T F' F Sp W0 σ D f a a' kind s fr cs w->
   (∀σ2 D2 s2 jA cs2 w2,J σ2 D2->Relation.TransGen (mV ⟨T,F'⟩ tl) s2 (Frame.enter ⟨T,F'⟩ f a kind,s.1::s.2.1,s.2.2)->Rel T F' F Sp W0 σ2 D2 s2 jA cs2 w2->OT ⟨T,F⟩ main Env Gu Fin (img σ2 D2) 0 (G jA (cs2++tail)) w2)->
   OT ⟨T,F⟩ main Env Gu Fin (img σ D) 0 (G (Frame.enter ⟨T,F⟩ f a' kind) (fr::(cs++tail))) w):
  ∀s,(s=s0\/Relation.TransGen (mV ⟨T,F'⟩ tl) s s0)->LT ⟨T,F'⟩ tl R s.1 s.2.1 s.2.2->∀σ D fr cs w,J σ D->Rel T F' F Sp W0 σ D s fr cs w->OT ⟨T,F⟩ main Env Gu Fin (img σ D) 0 (G fr (cs++tail)) w:=by
 intro s
 have hacc:∀s:LS,LT ⟨T,F'⟩ tl R s.1 s.2.1 s.2.2->Acc (Relation.TransGen (mV ⟨T,F'⟩ tl)) s:=λs h=>Acc.transGen (EK h s.2.2.tape)
 intro h0 hlt
 have ha:=hacc s hlt
 induction ha with
 |intro s _ ih=>
 intro σ D fr cs w hj hr
 by_cases hend:gJ s.1 s.2.1
 ·exact hfin σ D s fr cs w hj h0 hlt hr hend
 refine OT.mk rfl λw₁ hw₁=> ?_
 have he:=hE _ _ _ hw₁
 have hs1:=hr.sit.env he
 let τ:Nat->Question->Nat:=λj=>w₁.tape (j-s.2.2.drawn+w₁.drawn)
 have hy:Sync (tp s.2.2 τ) w₁:=λi=>by
  show w₁.tape (s.2.2.drawn+i-s.2.2.drawn+w₁.drawn)=w₁.tape (w₁.drawn+i)
  rw[show s.2.2.drawn+i-s.2.2.drawn+w₁.drawn=w₁.drawn+i by omega]
 have hs2:Sit σ D T W0 (tp s.2.2 τ) w₁:=hs1.tape τ w₁.tape
 have hout:=Js (tl:=tl) (tail:=tail) hz hB hs2 hy hr.fr hr.cs hq hr.bot main hend
 obtain⟨jA,cs2,u2,hg⟩:∃jA cs2 u2,Ls ⟨T,F'⟩ tl s.1 s.2.1 s.2.2 τ jA cs2 u2:=by
  obtain⟨fr0,als,u0⟩:=s
  cases hlt with
  |stop hl hr=>exact absurd ⟨rfl,by rw[hl.1];exact FrameMode.noConfusion,hl.2.1⟩ hend
  |step _ f c v h _=>exact⟨_,_,_,h τ⟩
 generalize hx:stepG (⟨T,F⟩:Program) main (G fr (cs++tail)) w₁=g at hout
 cases hout with
 |bad hbad=>
  obtain⟨_,es,h2⟩:=hg
  have abQ:stepG (⟨T,F'⟩:Program) true (G s.1 (s.2.1++tl)) (tp s.2.2 τ)=.ended _ _ _:=hbad
  rw[h2 τ (λ_ _ _=>rfl)]at abQ
  cases abQ
 | @go jQ BF iq cs1 u1 w1 es' es σ1 D1 hL hf1 hc1 hb hm=>
  have hg1:Ls ⟨T,F'⟩ tl s.1 s.2.1 s.2.2 τ jQ iq u1:=⟨hm.turned.lone.drawn,es',hL⟩
  have hd:mV ⟨T,F'⟩ tl (jQ,iq,u1) s:=⟨hend,τ,hg1⟩
  refine⟨_,_,_,rfl,hG _ _ _ _ (hm.gu hs2) (oG hm.evs),?_⟩
  have e1:grow (img σ D) w₁ w1=img σ1 D1:=(funext λb=>propext (hm.own hs2 b)).symm
  rw[e1,deafBehind_still (oG hm.evs)]
  exact ih _ (.single hd) (.inr (h0.elim (λe=>e▸ .single hd) (λh=>.trans (.single hd) h))) (hlt.next hd) σ1 D1 BF cs1 w1 (hJ _ _ _ _ hm.up hj) ⟨hm.sit,hf1,hc1,hb⟩
 | @out jQ BF iq cs1 u1 w1 es' es es2 σ1 D1 hL hf1 hc1 hb hm hq2 he2=>
  have hg1:Ls ⟨T,F'⟩ tl s.1 s.2.1 s.2.2 τ jQ iq u1:=⟨hm.turned.lone.drawn,es',hL⟩
  have hd:mV ⟨T,F'⟩ tl (jQ,iq,u1) s:=⟨hend,τ,hg1⟩
  have hst2:∀e∈es2,e.loc≠ .mark .disable/\e.loc≠ .mark .enable:=λe he=>(he2 e he).elim (oG hm.evs e) λh=>by rw[h];exact⟨Loc.noConfusion,Loc.noConfusion⟩
  refine⟨_,_,_,rfl,hGo hq2 _ _ _ _ es2 (hm.gu hs2) he2 hst2,?_⟩
  have e1:grow (img σ D) w₁ w1=img σ1 D1:=(funext λb=>propext (hm.own hs2 b)).symm
  rw[e1,deafBehind_still hst2]
  exact ih _ (.single hd) (.inr (h0.elim (λe=>e▸ .single hd) (λh=>.trans (.single hd) h))) (hlt.next hd) σ1 D1 BF cs1 w1 (hJ _ _ _ _ hm.up hj) ⟨hm.sit,hf1,hc1,hb⟩
 | @special f hsp hk a a' kind hkd jQ BF iq cs1 u1 w1 es' es σ1 D1 hL ha hf1 hc1 hb hm hdf hnm hnd hsz=>
  have hg1:Ls ⟨T,F'⟩ tl s.1 s.2.1 s.2.2 τ (Frame.enter ⟨T,F'⟩ f a kind) (jQ::iq) u1:=⟨hm.turned.lone.drawn,es',hL⟩
  have hd:mV ⟨T,F'⟩ tl (Frame.enter ⟨T,F'⟩ f a kind,jQ::iq,u1) s:=⟨hend,τ,hg1⟩
  refine⟨_,_,_,rfl,hG _ _ _ _ (hm.gu hs2) (oG hm.evs),?_⟩
  have e1:grow (img σ D) w₁ w1=img σ1 D1:=(funext λb=>propext (hm.own hs2 b)).symm
  rw[e1,deafBehind_still (oG hm.evs)]
  have hbelow:Relation.TransGen (mV ⟨T,F'⟩ tl) (Frame.enter ⟨T,F'⟩ f a kind,jQ::iq,u1) s0:=h0.elim (λe=>e▸ .single hd) (λh=>.trans (.single hd) h)
  refine hspec σ1 D1 f a a' kind (jQ,iq,u1) BF cs1 w1 (hJ _ _ _ _ hm.up hj) hbelow (hlt.next hd) ⟨hsp,hk,hkd,ha,⟨hm.sit,hf1,hc1,hb⟩,hdf,hnm,hnd,hsz⟩ (λσ2 D2 s2 jA cs2 w2 hj2 hd2 hr2=> ?_)
  have hd3:Relation.TransGen (mV ⟨T,F'⟩ tl) s2 s:=.trans hd2 (.single hd)
  exact ih s2 hd3 (.inr (h0.elim (λe=>e▸hd3) (λh=>.trans hd3 h))) (hlt.aeZ hd3) σ2 D2 jA cs2 w2 hj2 hr2
end
end Go.Proofs.YtlncengggmgdgaaGreat.par
namespace Go.Proofs.YtlncengggmgdgaaGreat.par
open Go Go.Conc
section
variable {P : Program} {tl : List Frame} {R : FuncId → Value → World → Prop} {fr jA : Frame} {cs cs2 : List Frame} {u u2 : World}
theorem Ai(h:fr.mode=.run):¬gJ fr cs:=λx=>x.2.1 h
theorem lS(hn:¬gJ fr cs)(hd:u.drawn<=u2.drawn){es:Array Event}(h:∀τ,stepG P true (G fr (cs++tl)) (tp u τ)=.go (G jA (cs2++tl)) (tp u2 τ) es):mV P tl (jA,cs2,u2) (fr,cs,u):=⟨hn,u.tape,hd,es,λτ' _=>h τ'⟩
theorem LT.go(hl:LT P tl R fr cs u)(hn:¬gJ fr cs)(hd:u.drawn<=u2.drawn){es:Array Event}(h:∀τ,stepG P true (G fr (cs++tl)) (tp u τ)=.go (G jA (cs2++tl)) (tp u2 τ) es):LT P tl R jA cs2 u2:=
 LT.next (s:=(fr,cs,u)) (s2:=(jA,cs2,u2)) hl (lS hn hd h)
theorem LT.no(hl:LT P tl R fr cs u)(hn:¬gJ fr cs)(h:∀τ,∃o w es,stepG P true (G fr (cs++tl)) (tp u τ)=.ended o w es):False:=by
 cases hl with
 |stop hl hr=>exact hn ⟨rfl,by rw[hl.1];exact FrameMode.noConfusion,hl.2.1⟩
 |step _ f c v hg _=>
  obtain⟨_,es,h1⟩:=hg u.tape
  obtain⟨o,w,es2,h2⟩:=h u.tape
  rw[h1 u.tape (λ_ _ _=>rfl)]at h2
  cases h2
structure bf(P:Program)(tl:List Frame)(R:FuncId->Value->World->Prop)(s0:LS)(fr:Frame)(cs:List Frame)(u:World):Prop where
 lt:LT P tl R fr cs u
 desc:(fr,cs,u)=s0\/Relation.TransGen (mV P tl) (fr,cs,u) s0
theorem bf.go{s0:LS}(h:bf P tl R s0 fr cs u)(hn:fr.mode=.run)(hd:u.drawn<=u2.drawn){es:Array Event}(hs:∀τ,stepG P true (G fr (cs++tl)) (tp u τ)=.go (G jA (cs2++tl)) (tp u2 τ) es):bf P tl R s0 jA cs2 u2:=
 ⟨h.lt.go (Ai hn) hd hs,.inr (h.desc.elim (λe=>e▸ .single (lS (Ai hn) hd hs)) λx=>.trans (.single (lS (Ai hn) hd hs)) x)⟩
theorem bf.no{s0:LS}(h:bf P tl R s0 fr cs u)(hn:fr.mode=.run)(hs:∀τ,∃o w es,stepG P true (G fr (cs++tl)) (tp u τ)=.ended o w es):False:=h.lt.no (Ai hn) hs
end
section
variable {P : Program} {tl : List Frame} {R : FuncId → Value → World → Prop} {b : Frame} {a : Act} {k : List Item} {cs : List Frame} {u : World} {s0 : LS}
theorem eY{x y:Code}(h:bf P tl R s0 (b.at a (.code (.seq x y)::k)) cs u):bf P tl R s0 (b.at a (.code x:: .code y::k)) cs u:=h.go rfl (Nat.le_refl _) λ_=>stepG_seq
theorem oH(h:bf P tl R s0 (b.at a (.code .skip::k)) cs u):bf P tl R s0 (b.at a k) cs u:=h.go rfl (Nat.le_refl _) λ_=>stepG_skip
theorem dR{id:Nat}{ops:Array Oper}(h:bf P tl R s0 (b.at a (.code (.region id ops false)::k)) cs u):bf P tl R s0 (b.at a (.inRegion ops (List.range ops.size)::k)) cs u:=h.go rfl (Nat.le_refl _) λ_=>stepG_region
theorem dS{ops:Array Oper}(h:bf P tl R s0 (b.at a (.inRegion ops []::k)) cs u):bf P tl R s0 (b.at a k) cs u:=h.go rfl (Nat.le_refl _) λ_=>stepG_region_end
theorem oI{c:Operand}{x y:Code}{t:Bool}(hc:a.eval c=.bool t)(h:bf P tl R s0 (b.at a (.code (.cond c x y)::k)) cs u):bf P tl R s0 (b.at a (.code (if t then x else y)::k)) cs u:=h.go rfl (Nat.le_refl _) λ_=>stepG_cond hc
theorem Ju(h:bf P tl R s0 (b.at a (.code .ret::k)) cs u):bf P tl R s0 {b.at a (.code .ret::k)with mode:=.returning} cs u:=h.go rfl (Nat.le_refl _) λ_=>stepG_ret'
theorem nN{why:String}(h:bf P tl R s0 (b.at a (.code (.refuse why)::k)) cs u):False:=h.no rfl λτ=>by
 refine⟨.unsupported (Unsupported.elab why) (Frame.pos P (b.at a (.code (.refuse why)::k))),tp u τ,#[],?_⟩
 rw[oD rfl]
 simp[stepG.exec,Frame.at]
theorem jC{ops:Array Oper}{i:Nat}{rest:List Nat}{o:Oper}{v:Value}{u2:World}(ho:ops[i]? =some o)(hw:Region.wanted o (yielded ops a.tmps)=true)(hk:b.kind≠ .early)(hd:u.drawn<=u2.drawn){es:Array Event}
  (hr:∀τ,(execOp a.eval o).run P (tp u τ)=.ok (.value v) (tp u2 τ)) (he:∀τ,listed P b.fn a o (tp u τ)=es) (h:bf P tl R s0 (b.at a (.inRegion ops (i::rest)::k)) cs u):bf P tl R s0 (b.at (a.put o.dst v) (.inRegion ops rest::k)) cs u2:=
 h.go rfl hd λτ=>by rw[stepG_value ho hw hk (hr τ),he τ]
theorem RH{ops:Array Oper}{i:Nat}{rest:List Nat}{o:Oper}{u2:World}(ho:ops[i]? =some o)(hw:Region.wanted o (yielded ops a.tmps)=true)(hk:b.kind≠ .early)(hd:u.drawn<=u2.drawn){es:Array Event}
  (hr:∀τ,(execOp a.eval o).run P (tp u τ)=.ok .skip (tp u2 τ)) (he:∀τ,listed P b.fn a o (tp u τ)=es) (h:bf P tl R s0 (b.at a (.inRegion ops (i::rest)::k)) cs u):bf P tl R s0 (b.at (a.put o.dst undef) (.inRegion ops rest::k)) cs u2:=
 h.go rfl hd λτ=>by rw[stepG_none ho hw hk (hr τ),he τ]
theorem jJ{ops:Array Oper}{i:Nat}{rest:List Nat}{o:Oper}(ho:ops[i]? =some o)(hw:Region.wanted o (yielded ops a.tmps)=true)(hk:b.kind≠ .early)
  (hr:∀τ,∃h w es,cZ h/\(execOp a.eval o).runT P (tp u τ) #[]=(.halt h w,es)) (h:bf P tl R s0 (b.at a (.inRegion ops (i::rest)::k)) cs u):False:=h.no rfl λτ=>by
 obtain⟨hh,w,es,h1,h2⟩:=hr τ
 rw[stepG_oper ho hw]
 obtain⟨o',es',h3⟩:=MQ (fr:=b.at a (.inRegion ops (i::rest)::k)) (cs:=cs++tl) hk h1 h2
 exact⟨o',w,es',h3⟩
end
end Go.Proofs.YtlncengggmgdgaaGreat.par
namespace Go.Proofs.YtlncengggmgdgaaGreat.par
open Go Go.Conc
inductive Rk:Type 1
 |node {ι:Type} (f:ι->Rk):Rk
inductive Rk.Ch:Rk->Rk->Prop
 |mk {ι:Type} (f:ι->Rk) (i:ι):Rk.Ch (f i) (.node f)
theorem Rk.acc(r:Rk):Acc Rk.Ch r:=by
 induction r with
 |node f ih=>
  refine Acc.intro _ λs hs=> ?_
  cases hs with
  |mk _ i=>exact ih i
theorem Rk.wf:WellFounded Rk.Ch:=⟨Rk.acc⟩
def Rk.nil:Rk:=.node (ι:=Empty) (λx=>nomatch x)
def Rk.nat:Nat->Rk
 |0=>.nil
 |n+1=>.node (ι:=Unit) λ_=>Rk.nat n
theorem Rk.acJ(n:Nat):Rk.Ch (Rk.nat n) (Rk.nat (n+1)):=.mk (ι:=Unit) (λ_=>Rk.nat n) ()
def wI(n:Nat)(f' f:Nat->Rk):Prop:=∃i,i<n/\Rk.Ch (f' i) (f i)/\∀j,j≠i->f' j=f j
theorem Jv:∀(n:Nat)(f:Nat->Rk),Acc (wI n) f:=by
 intro n
 induction n with
 |zero=>exactλf=>Acc.intro _ λf'⟨i,hi,_⟩=>absurd hi (Nat.not_lt_zero i)
 |succ n ih=>
  have key:∀r:Rk,∀f:Nat->Rk,f n=r->Acc (wI (n+1)) f:=by
   intro r
   induction r with
   |node g ihr=>
    intro f hf
    have ha:=ih f
    induction ha with
    |intro f _ ihf=>
     refine Acc.intro _ λf'⟨i,hi,hc,hs⟩=> ?_
     by_cases hin:i=n
     ·subst hin
      rw[hf]at hc
      generalize hx:f' i=x at hc
      cases hc with
      |mk _ k=>exact ihr k f' hx
     ·exact ihf f' ⟨i,by omega,hc,hs⟩ (by rw[hs n (λe=>hin e.symm)];exact hf)
  exactλf=>key _ f rfl
theorem Na(n:Nat):WellFounded (wI n):=⟨Jv n⟩
abbrev Mu:=Nat×(Nat->Rk)×Nat×Rk
def yu(n:Nat):Mu->Mu->Prop:=Prod.Lex (· <·) (Prod.Lex (wI n) (Prod.Lex (· <·) Rk.Ch))
theorem Zg(n:Nat):WellFounded (yu n):=(Prod.lex ⟨_,Nat.lt_wfRel.wf⟩ ⟨_,(Prod.lex ⟨_,Na n⟩ ⟨_,(Prod.lex ⟨_,Nat.lt_wfRel.wf⟩ ⟨_,Rk.wf⟩).wf⟩).wf⟩).wf
theorem yu.num{n:Nat}{a b:Nat}{f g:(Nat->Rk)×Nat×Rk}(h:a<b):yu n (a,f) (b,g):=Prod.Lex.left _ _ h
theorem yu.other{n:Nat}{a:Nat}{f g:Nat->Rk}{r s:Nat×Rk}(h:wI n f g):yu n (a,f,r) (a,g,s):=Prod.Lex.right _ (Prod.Lex.left _ _ h)
theorem yu.flag{n:Nat}{a b c:Nat}{f:Nat->Rk}{r s:Rk}(h:b<c):yu n (a,f,b,r) (a,f,c,s):=Prod.Lex.right _ (Prod.Lex.right _ (Prod.Lex.left _ _ h))
theorem yu.first{n:Nat}{a b:Nat}{f:Nat->Rk}{r s:Rk}(h:Rk.Ch r s):yu n (a,f,b,r) (a,f,b,s):=Prod.Lex.right _ (Prod.Lex.right _ (Prod.Lex.right _ h))
section
variable (P : Program) (main : Bool) (Env : (Nat → Prop) → World → World → Prop) (Gu : (Nat → Prop) → World → World → Array Event → Prop) (Stop : (Nat → Prop) → Nat → Goroutine → World → Prop)
inductive Gj:Rk->(Nat->Prop)->Nat->Goroutine->World->Prop
 |stop {r:Rk} {O:Nat->Prop} {d:Nat} {g:Goroutine} {w:World} (h:∀w₁,Env O w w₁->Stop O d g w₁):Gj r O d g w
 |step {r:World->Rk} {O:Nat->Prop} {d:Nat} {g:Goroutine} {w:World} (hr:g.status=.running) (g':World->Goroutine) (w':World->World) (es:World->Array Event) (h:∀w₁,Env O w w₁->stepG P main g w₁=.go (g' w₁) (w' w₁) (es w₁)) (hg:∀w₁,Env O w w₁->Gu O w₁ (w' w₁) (es w₁))
   (ih:∀w₁,Env O w w₁->Gj (r w₁) (grow O w₁ (w' w₁)) (deafBehind d (es w₁)) (g' w₁) (w' w₁)):Gj (.node r) O d g w
end
section
variable {P : Program} {main : Bool} {Env : (Nat → Prop) → World → World → Prop} {Gu : (Nat → Prop) → World → World → Array Event → Prop} {Stop Stop' : (Nat → Prop) → Nat → Goroutine → World → Prop}
theorem OT.BO{O:Nat->Prop}{d:Nat}{g:Goroutine}{w:World}(h:OT P main Env Gu Stop O d g w):∃r,Gj P main Env Gu Stop r O d g w:=by
 classical
 induction h with
 |stop h=>exact⟨.nil,.stop h⟩
 | @step O d g w hr g' w' es h hg _ ih=>
  refine⟨.node λw₁=>if he:Env O w w₁ then(ih w₁ he).choose else .nil,.step hr g' w' es h hg λw₁ he=> ?_⟩
  rw[dif_pos he]
  exact(ih w₁ he).choose_spec
theorem Gj.rely{r:Rk}{O:Nat->Prop}{d:Nat}{g:Goroutine}{w w₁:World}(htr:∀O a b c,Env O a b->Env O b c->Env O a c)(h:Gj P main Env Gu Stop r O d g w)(he:Env O w w₁):Gj P main Env Gu Stop r O d g w₁:=by
 cases h with
 |stop h=>exact .stop λw₂ h₂=>h w₂ (htr _ _ _ _ he h₂)
 |step hr g' w' es h hg ih=>exact .step hr g' w' es (λw₂ h₂=>h w₂ (htr _ _ _ _ he h₂)) (λw₂ h₂=>hg w₂ (htr _ _ _ _ he h₂)) (λw₂ h₂=>ih w₂ (htr _ _ _ _ he h₂))
theorem Gj.running{r:Rk}{O:Nat->Prop}{d:Nat}{g:Goroutine}{w:World}(hrefl:∀O w,Env O w w)(hS:∀O d g w,Stop O d g w->g.status=.running)(h:Gj P main Env Gu Stop r O d g w):g.status=.running:=by
 cases h with
 |stop h=>exact hS _ _ _ _ (h _ (hrefl _ _))
 |step hr=>exact hr
theorem OT.weaken{O:Nat->Prop}{d:Nat}{g:Goroutine}{w:World}(hs:∀O d g w,Stop O d g w->Stop' O d g w)(h:OT P main Env Gu Stop O d g w):OT P main Env Gu Stop' O d g w:=by
 induction h with
 |stop h=>exact .stop λw₁ he=>hs _ _ _ _ (h w₁ he)
 |step hr g' w' es h hg _ ih=>exact .step hr g' w' es h hg ih
end
end Go.Proofs.YtlncengggmgdgaaGreat.par
namespace Go.Proofs.YtlncengggmgdgaaGreat.par
open Go Go.Conc
section
variable {P : Program} {k : FuncId}
theorem Zh(hk:gq P k){x:Frame}(hx:x.defers=[⟨.fn (.func k) #[],#[]⟩])(hm:x.mode≠ .run)(w:World):∀N fr' cs' w',2<=cs'.length->runN P N (lone x [] w)=.next (lone fr' cs' w')->False:=by
 intro N fr' cs' w' hl hN
 obtain⟨y,w1,o,w2,h1,h2⟩:=abO hk hx hm w
 rcases N with _|_|N
 ·simp only[runN]at hN
  injection hN with hN
  have:=(iw hN).2.1
  subst this
  simp at hl
 ·simp only[runN,h1]at hN
  injection hN with hN
  have:=(iw hN).2.1
  subst this
  simp at hl
 ·simp only[runN,h1,h2]at hN
  cases hN
theorem Nb(hk:gq P k)(w:World):∀N fr' cs' w',2<=cs'.length->runN P N (lone (c0 k) [] w)=.next (lone fr' cs' w')->False:=by
 intro N fr' cs' w' hl hN
 rcases N with _|N
 ·simp only[runN]at hN
  injection hN with hN
  have:=(iw hN).2.1
  subst this
  simp at hl
 ·have h1:step P (lone (c0 k) [] w)=.next (lone {c0 k with mode:=.returning} [] w):=nM (es:= #[]) (by rw[oD rfl];rfl)
  simp only[runN,h1]at hN
  exact Zh hk (x:={c0 k with mode:=.returning}) rfl (by simp) w N fr' cs' w' hl hN
theorem Nc(hk:gq P k){fr:Frame}{u:World}{v:Value}(hl:fr.leaving P u (.returned v)):∀N fr' cs' w',2<=cs'.length->runN P N (lone fr [c0 k] u)=.next (lone fr' cs' w')->False:=by
 intro N fr' cs' w' h2 hN
 rcases N with _|N
 ·simp only[runN]at hN
  injection hN with hN
  have:=(iw hN).2.1
  subst this
  simp at h2
 ·have h1:step P (lone fr [c0 k] u)=.next (lone ((c0 k).finish v) [] u):=step_leave_returned hl
  simp only[runN,h1]at hN
  have e:(c0 k).finish v=c0 k:=rfl
  rw[e]at hN
  exact Nb hk u N fr' cs' w' h2 hN
variable {R : FuncId → Value → World → Prop} {τ : Nat → Question → Nat}
theorem Zi(hk:gq P k)(hR:∀g v w,R g v w->∃fn t,P.funcs[g]? =some fn/\fn.results= #[.tmp t]){fr':Frame}{C:List Frame}{w':World}(hC:1<=C.length):∀(N:Nat)(fr:Frame)(cs:List Frame)(u:World),LT P [c0 k] R fr cs u->runN P N (lone fr (cs++[c0 k]) (tp u τ))=.next (lone fr' (C++[c0 k]) w')->
  ∃u',w'=tp u' τ/\LT P [c0 k] R fr' C u'/\((fr',C,u')=(fr,cs,u)\/Relation.TransGen (mV P [c0 k]) (fr',C,u') (fr,cs,u)):=by
 intro N
 induction N with
 |zero=>
  intro fr cs u h hN
  simp only[runN]at hN
  injection hN with hN
  obtain⟨e1,e2,e3⟩:=iw hN
  have e4:=List.append_cancel_right e2
  subst e1 e4 e3
  exact⟨u,rfl,h,.inl rfl⟩
 |succ N ih=>
  intro fr cs u h hN
  cases h with
  |stop hl hr=>
   exfalso
   rename_i v τ1
   obtain⟨h1,h2,h3,fn,h4,h5⟩:=hl
   obtain⟨fn',t,h6,h7⟩:=hR _ _ _ hr
   obtain rfl:=Option.some.inj (h4.symm.trans h6)
   rw[results_tmp h7]at h5
   injection h5 with h5 _
   have hl':fr.leaving P (tp u τ) (.returned v):=⟨h1,h2,h3,fn,h4,by rw[results_tmp h7,h5]⟩
   have hN':runN P (N+1) (lone fr [c0 k] (tp u τ))=.next (lone fr' (C++[c0 k]) w'):=hN
   exact Nc hk hl' (N+1) fr' (C++[c0 k]) w' (by simp;omega) hN'
  |step hn f c v h ih2=>
   obtain⟨hd,es,hs⟩:=h τ
   have hst:=nM (hs τ (λ_ _ _=>rfl))
   simp only[runN,hst]at hN
   obtain⟨u',e1,e2,e3⟩:=ih _ _ _ (ih2 τ) hN
   have hde:mV P [c0 k] (f τ,c τ,v τ) (fr,cs,u):=⟨hn,τ,hd,es,hs⟩
   exact⟨u',e1,e2,.inr (e3.elim (λe=>e▸ .single hde) λe=>.tail e hde)⟩
theorem Nh{tl:List Frame}{b:Frame}{a:Act}{kk:List Item}{cs:List Frame}{u:World}{s0:LS}{ops:Array Oper}{i:Nat}{rest:List Nat}{o:Oper}{f:FuncId}{fn:Func}{args:Array Operand}{ats:Array TypeId}(ho:ops[i]? =some o)(hw:Region.wanted o (yielded ops a.tmps)=true)(hk:b.kind≠ .early)(hop:o.op=.call {callee:=.value (.func f),args,argTypes:=ats})
  (hf:P.funcs[f]? =some fn) (hname:(fn.name== "runtime.NumGoroutine")=false) (hb:fn.body.isNone=false) {vs:Array Value} (hv:args.map a.eval=vs) (h:bf P tl R s0 (b.at a (.inRegion ops (i::rest)::kk)) cs u):bf P tl R s0 (Frame.enter P f vs .normal) (b.at a (.inRegion ops (i::rest)::kk)::cs) u:=
 h.go rfl (Nat.le_refl _) λτ=>by
  have h1:listed P b.fn a o (tp u τ)= #[]:=by unfold listed;rw[events_call_body hop hf hname hb];exact seen_none P _
  show stepG P true (G (b.at a (.inRegion ops (i::rest)::kk)) (cs++tl)) (tp u τ)=_
  rw[stepG_enter ho hw hk (run_call_body hop hf hname hb),h1,hv]
  rfl
theorem Nj(hk:gq P k)(hR:∀g v w,R g v w->∃fn t,P.funcs[g]? =some fn/\fn.results= #[.tmp t]){f:FuncId}{args:Array Value}{fn:Func}{t:Tmp}(hf:P.funcs[f]? =some fn)(hr:fn.results= #[.tmp t]){u:World}{Rf:Value->World->Prop}(hC:Calls P f args u (λe w=>∃v,e=.returned v/\Rf v w))
  {s0:LS} {c:Frame} {cs:List Frame} (h:bf P [c0 k] R s0 (Frame.enter P f args .normal) (c::cs) u):∃v u',Rf v u'/\bf P [c0 k] R s0 (c.finish v) cs u':=by
 obtain⟨e,w',fr',⟨v,rfl,hv⟩,hcom,hfn,hl⟩:=hC ((c::cs)++[c0 k])
 obtain⟨N,hN⟩:Steps P _ _:=hcom
 obtain⟨u',e1,e2,e3⟩:=Zi (τ:=u.tape) hk hR (C:=c::cs) (by simp) N _ _ _ h.lt hN
 obtain⟨h1,h2,h3,fn',h4,h5⟩:=hl
 rw[hfn]at h4
 obtain rfl:=Option.some.inj (h4.symm.trans hf)
 rw[results_tmp hr]at h5
 injection h5 with h5 _
 refine⟨v,w',hv,?_⟩
 have h6:bf P [c0 k] R s0 fr' (c::cs) u':=⟨e2,e3.elim (λe=>h.desc.elim (λe'=>.inl (e.trans e')) λx=>.inr (e▸x)) λx=>.inr (h.desc.elim (λe'=>e'▸x) λy=>.trans x y)⟩
 have hn:¬gJ fr' (c::cs):=λx=>by cases x.1
 have hs:∀τ,stepG P true (G fr' ((c::cs)++[c0 k])) (tp u' τ)=.go (G (c.finish v) (cs++[c0 k])) (tp w' τ) (seen P fr'.fn #[]++ #[]):=λτ=>by
  have hrun:(results fn' fr'.tmps).runT P (tp u' τ) #[]=(.ok v (tp u' τ),#[]):=by
   rw[Sem.runT_eq,results_tmp hr,events_results_tmp hr,h5]
  rw[eX (by rw[h1];exact FrameMode.noConfusion)]
  show unwind P true fr' (c::(cs++[c0 k])) none (tp u' τ)=_
  rw[pO h2 h1 (by rw[hfn];exact hf) hrun,kJ h3,e1]
  rfl
 have hd:u'.drawn<=w'.drawn:=by rw[e1];exact Nat.le_refl _
 exact⟨h6.lt.go hn hd hs,.inr (h6.desc.elim (λe=>e▸ .single (lS hn hd hs)) λx=>.trans (.single (lS hn hd hs)) x)⟩
end
end Go.Proofs.YtlncengggmgdgaaGreat.par
