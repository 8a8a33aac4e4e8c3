/- What a goroutine's step does to a lone world its fellow's does to the crowd's: the pieces. No conditions. -/
import Derived.Test.YtlncengggmgdgaaGreatG06
import Derived.Test.YtlncengggmgdgaaGreatG02
import Derived.Conc.Own
set_option linter.unusedVariables false
set_option linter.unusedSimpArgs false
namespace Go.Proofs.YtlncengggmgdgaaGreat.par
open Go Go.Conc
section
variable (T : Tables) (W0 : World)
structure Moved(σ:Nat->Nat)(D:Nat->Prop)(u w:World)(σ1:Nat->Nat)(D1:Nat->Prop)(u1 w1:World)(es:Array Event):Prop where
 sit:Sit σ1 D1 T W0 u1 w1
 up:Up σ D σ1 D1
 fresh:∀r,D1 r->D r\/(u.heap.size<=r/\σ1 r=w.heap.size+(r-u.heap.size))
 made:∀i,w.heap.size+i<w1.heap.size->D1 (u.heap.size+i)/\σ1 (u.heap.size+i)=w.heap.size+i
 turned:Turned σ1 D1 u w u1 w1
 evs:∀e∈es,uf σ1 D1 e
end
section
variable {T : Tables} {W0 : World}
theorem Moved.refl{σ:Nat->Nat}{D:Nat->Prop}{u w:World}(h:Sit σ D T W0 u w):Moved T W0 σ D u w σ D u w #[]:=
 ⟨h,λr hr=>⟨hr,rfl⟩,λr hr=>.inl hr,λi hi=>by omega,Turned.refl u w,λe he=>by simp at he⟩
theorem Moved.sub{σ σ1:Nat->Nat}{D D1:Nat->Prop}{u w u1 w1:World}{es fs:Array Event}(h:Moved T W0 σ D u w σ1 D1 u1 w1 es)(hf:∀e∈fs,e∈es):Moved T W0 σ D u w σ1 D1 u1 w1 fs:=
 ⟨h.sit,h.up,h.fresh,h.made,h.turned,λe he=>h.evs e (hf e he)⟩
def acE{α β:Type}(T:Tables)(W0:World)(σ:Nat->Nat)(D:Nat->Prop)(R:(Nat->Nat)->(Nat->Prop)->α->β->Prop)(u w:World):Result α->Result β×Array Event->Prop
 | .ok a u1,(.ok b w1,es)=>∃σ1 D1,Moved T W0 σ D u w σ1 D1 u1 w1 es/\R σ1 D1 a b
 | .halt (.panic v) u1,(.halt (.panic v') w1,es)=>∃σ1 D1,Moved T W0 σ D u w σ1 D1 u1 w1 es/\VR σ1 D1 v v'
 | .halt h _,_=>cZ h
 |_,_=>False
def Sync(u w:World):Prop:=∀i,u.tape (u.drawn+i)=w.tape (w.drawn+i)
theorem pJ{α β:Type}{P' P:Program}(hP':P'.toTables=T)(hP:P.toTables=T){σ:Nat->Nat}{D:Nat->Prop}{u w:World}(h:Sit σ D T W0 u w)(hy:Sync u w){s:Sem α}{s':Sem β}{R:(Nat->Nat)->(Nat->Prop)->α->β->Prop}
  (hs:∀σ1 D1,Up σ D σ1 D1->zV σ1 D1->Glob σ1 D1 T->ay σ1 D1 P' P (R σ1 D1) s s'):acE T W0 σ D R u w (s.runT P' u #[]).1 (s'.runT P w #[]):=by
 have hg:=gY P s' w #[]
 have hgu:=gY P' s u #[]
 generalize hk:(qN (s'.runT P w #[]).1).heap.size-w.heap.size=k
 have hw1:(qN (s'.runT P w #[]).1).heap.size=w.heap.size+k:=by have:=hg.size;omega
 have hrel:=(hs _ _ (h.up k) (h.BD k) (h.F9 k)).run (W0:=W0) (hP'.trans hP.symm) (h.BD k) u w #[] #[] (h.abM k) (λi _=>hy i) (λi hi=>⟨.inr ⟨by omega,by omega⟩,by unfold exσ;rw[if_neg (by omega)];omega⟩)
 have fin:∀{u1 w1:World}{es:Array Event},WR (exσ σ u.heap.size w.heap.size) (exD D u.heap.size k) W0 u1 w1->Turned (exσ σ u.heap.size w.heap.size) (exD D u.heap.size k) u w u1 w1->w1.heap.size=w.heap.size+k->(∃l:Array Event,es= #[]++l/\∀e∈l,uf (exσ σ u.heap.size w.heap.size) (exD D u.heap.size k) e)->
   Moved T W0 σ D u w (exσ σ u.heap.size w.heap.size) (exD D u.heap.size k) u1 w1 es:=by
  intro u1 w1 es h1 h2 h3 ⟨l,h4,h5⟩
  have h6:=h2.size
  have h7:=h.gu
  have h8:=h.gw
  refine⟨⟨h1,h.BD k,h.F9 k,λr hr=> ?_,by omega,by omega⟩,h.up k,λr hr=> ?_,λi hi=>⟨.inr ⟨by omega,by omega⟩,by unfold exσ;rw[if_neg (by omega)];omega⟩,h2,λe he=>h5 e (by simpa [h4]using he)⟩
  ·rcases hr with hr|⟨_,hr⟩
   ·have:=h.bound r hr;omega
   ·omega
  ·rcases hr with hr|⟨hr,_⟩
   ·exact .inl hr
   ·exact .inr ⟨hr,by unfold exσ;rw[if_neg (by omega)]⟩
 revert hrel hw1
 rcases s.runT P' u #[]with⟨r,es0⟩
 rcases s'.runT P w #[]with⟨r',es⟩
 dsimp only
 intro hw1 hrel
 rcases r with⟨a,u1⟩|⟨h0,u1⟩
 ·rcases r' with⟨b,w1⟩|⟨h1,w1⟩
  ·obtain⟨h1,h2,h3,h4⟩:=hrel
   exact⟨_,_,fin h2 h3 hw1 h4,h1⟩
  ·exact hrel.elim
 ·cases h0<;>first|exact hrel|skip
  rcases r' with⟨b,w1⟩|⟨h1,w1⟩
  ·exact hrel.elim
  ·cases h1<;>first|exact hrel.elim|skip
   obtain⟨h1,h2,h3,h4⟩:=hrel
   exact⟨_,_,fin h2 h3 hw1 h4,h1⟩
theorem jT{α β:Type}{P' P:Program}(hP':P'.toTables=T)(hP:P.toTables=T){σ:Nat->Nat}{D:Nat->Prop}{u w:World}(h:Sit σ D T W0 u w)(hy:Sync u w){s:Sem α}{s':Sem β}{R:(Nat->Nat)->(Nat->Prop)->α->β->Prop}
  (hs:∀σ1 D1,Up σ D σ1 D1->zV σ1 D1->Glob σ1 D1 T->ay σ1 D1 P' P (R σ1 D1) s s') {r:Result α} {es:Array Event} (hr:s.runT P' u #[]=(r,es)):∀τ,Agree τ u.tape u.drawn (qN r).drawn->s.runT P' (tp u τ) #[]=(tpR τ r,es):=by
 intro τ hτ
 have hg:=gY P s' w #[]
 generalize hk:(qN (s'.runT P w #[]).1).heap.size-w.heap.size=k
 have hw1:(qN (s'.runT P w #[]).1).heap.size=w.heap.size+k:=by have:=hg.size;omega
 have:=(hs _ _ (h.up k) (h.BD k) (h.F9 k)).tape (W0:=W0) (hP'.trans hP.symm) (h.BD k) u w #[] #[] (h.abM k) (λi _=>hy i) (λi hi=>⟨.inr ⟨by omega,by omega⟩,by unfold exσ;rw[if_neg (by omega)];omega⟩) τ (by rw[hr];exact hτ)
 rw[hr]at this
 exact this
end
end Go.Proofs.YtlncengggmgdgaaGreat.par
namespace Go.Proofs.YtlncengggmgdgaaGreat.par
open Go Go.Conc
section
variable {σ : Nat → Nat} {D : Nat → Prop} {T : Tables} {Sp : FuncId → Prop} {F' F : Array Func}
theorem pK:VR σ D undef undef:=.undef _ rfl
theorem wC{c c':Array Value}(h:dI σ D c c')(i:Nat):VR σ D (c.getD i undef) (c'.getD i undef):=by
 simp only[Array.getD_eq_getD_getElem?]
 rcases hx:c[i]? with _|x
 ·have:c'[i]? =none:=by
   rw[Array.getElem?_eq_none_iff]at hx⊢
   rw[<-h.1];exact hx
  rw[this]
  exact pK
 ·obtain⟨y,hy,hxy⟩:=h.get hx
  rw[hy]
  exact hxy
theorem wE{fr' fr:Frame}(h:dI σ D fr'.tmps fr.tmps):I7 σ D fr'.eval fr.eval:=by
 refine⟨λx hx=> ?_,λf=>⟨rfl,rfl⟩⟩
 cases x with
 |tmp t=>exact wC h t
 |const v=>exact LJ hx
 |global g=>cases hx
 |func f=>exact .func f rfl (λi x y hx=>by simp at hx) rfl (λi x y hx=>by simp at hx) (by simpa [dZ]using hx)
theorem Jg{v v':Value}(h:VR σ D v v')(b:Bool):v=.bool b↔v'=.bool b:=by
 cases h<;>simp
 rename_i hv
 intro e
 subst e
 cases hv
theorem Jh{c c':Array Value}(h:dI σ D c c')(ops:Array Oper)(j:Nat):yielded ops c j=yielded ops c' j:=by
 unfold yielded
 rcases(ops[j]?).bind (·.dst)with _|d
 ·rfl
 ·simp only[Option.bind_some]
  rcases hx:c[d]? with _|x
  ·have:c'[d]? =none:=by
    rw[Array.getElem?_eq_none_iff]at hx⊢
    rw[<-h.1];exact hx
   rw[this]
  ·obtain⟨y,hy,hxy⟩:=h.get hx
   rw[hy]
   have hb:=Jg hxy
   cases x<;>cases y<;>first|rfl|(rename_i p q;have:=(hb p).1 rfl;cases this;rfl)|(rename_i p _;have:=(hb p).1 rfl;cases this)|(rename_i p _ _;have:=(hb p).1 rfl;cases this)|(rename_i p _ _ _;have:=(hb p).1 rfl;cases this)|(rename_i p;have:=(hb p).1 rfl;cases this)|(rename_i q;have:=(hb q).2 rfl;cases this)|skip
theorem gB{fr' fr:Frame}(h:jf σ D T Sp F' F fr' fr){v v':Value}(hv:VR σ D v v'):jf σ D T Sp F' F (fr'.finish v) (fr.finish v'):=by
 obtain⟨fn',gV,todo',defers',Pj,kind',round'⟩:=fr'
 obtain⟨fn,tmps,todo,defers,mode,kind,round⟩:=fr
 obtain⟨h1,h2,h3,h4,h5,h6,h7,h8,h9,h10⟩:=h
 dsimp only at h1 h2 h3 h4 h5 h6 h7 h8 h9 h10
 cases h3 with
 |nil=>exact⟨h1,h2,.nil,h4,h5,h6,h7,h8,h9,h10⟩
 | @cons a b l m hab hlm=>
  cases hab with
  |code hc=>exact⟨h1,h2,.cons (.code hc) hlm,h4,h5,h6,h7,h8,h9,h10⟩
  |inBlock id=>exact⟨h1,h2,.cons (.inBlock id) hlm,h4,h5,h6,h7,h8,h9,h10⟩
  |inRangeFunc hd=>exact⟨h1,h2,.cons (.endRangeFunc hd) hlm,h4,h5,h6,h7,h8,h9,h10⟩
  |endRangeFunc hd=>exact⟨h1,h2,.cons (.endRangeFunc hd) hlm,h4,h5,h6,h7,h8,h9,h10⟩
  |beginRound=>exact⟨h1,h2,hlm,h4,h5,h6,h7,h8,h9,h10⟩
  |inLoop hc=>exact⟨h1,h2,.cons (.inLoop hc) hlm,h4,h5,h6,h7,h8,h9,h10⟩
  |inScope hc=>exact⟨h1,h2,.cons (.inScope hc) hlm,h4,h5,h6,h7,h8,h9,h10⟩
  | @inRegion ops hops rest=>
   cases rest with
   |nil=>exact⟨h1,h2,.cons (.inRegion hops []) hlm,h4,h5,h6,h7,h8,h9,h10⟩
   |cons i rest=>
    refine⟨h1,?_,.cons (.inRegion hops rest) hlm,h4,h5,h6,h7,h8,h9,h10⟩
    show dI σ D (match(ops[i]?).bind (·.dst)with|some d=>gV.setIfInBounds d v|none=>gV) (match(ops[i]?).bind (·.dst)with|some d=>tmps.setIfInBounds d v'|none=>tmps)
    cases(ops[i]?).bind (·.dst)with
    |none=>exact h2
    |some d=>exact h2.set hv
theorem oC{fr' fr:Frame}(h:jf σ D T Sp F' F fr' fr){c c':List PanicEntry}(hc:LR (PeR σ D) c c'):jf σ D T Sp F' F (fr'.raise c) (fr.raise c'):=by
 obtain⟨fn',gV,todo',defers',Pj,kind',round'⟩:=fr'
 obtain⟨fn,tmps,todo,defers,mode,kind,round⟩:=fr
 obtain⟨h1,h2,h3,h4,h5,h6,h7,h8,h9,h10⟩:=h
 dsimp only at h1 h2 h3 h4 h5 h6 h7 h8 h9 h10
 cases h5 with
 |run=>exact⟨h1,h2,h3,h4,.panicking hc,h6,h7,h8,h9,h10⟩
 |returning=>exact⟨h1,h2,h3,h4,.panicking hc,h6,h7,h8,h9,h10⟩
 |panicking hk=>exact⟨h1,h2,h3,h4,.panicking (hc.append hk),h6,h7,h8,h9,h10⟩
theorem l9(hB:vZ T Sp F' F){f:FuncId}(hk:Both F' F f)(hs:¬Sp f){a a':Array Value}(ha:dI σ D a a'){kind:CallKind}(hkd:kind=.normal\/kind=.deferred){P' P:Program}(e1:P'.funcs=F')(e2:P.funcs=F):
  jf σ D T Sp F' F (Frame.enter P' f a kind) (Frame.enter P f a' kind):=by
 obtain⟨g',g,c',c,hg',hg,hc',hc⟩:=hk
 obtain⟨hcr,hn,hr⟩:=hB.body f g' g c' c hs hg' hg hc' hc
 unfold Frame.enter
 rw[e1,e2,hg',hg]
 dsimp only[Option.map_some,Option.bind_some,Option.getD_some]
 rw[hc',hc,hn,ha.1]
 refine⟨rfl,dI.append ha (mJ (λx hx=> ?_)),.cons (.code hcr) .nil,.nil,.run,rfl,hkd,.none,trivial,⟨g',g,hg',hg,hr⟩⟩
 obtain⟨_,rfl⟩:=Array.mem_replicate.1 hx
 rfl
theorem MP(id:Nat){q:Prop}{rd:Bool}{k k':List Item}(h:LR (jG σ D T q rd) k k'):(exitTo id k=none/\exitTo id k'=none)\/∃r r',exitTo id k=some r/\exitTo id k'=some r'/\LR (jG σ D T q rd) r r':=by
 induction h with
 |nil=>exact .inl ⟨rfl,rfl⟩
 | @cons a b l m hab hlm ih=>
  cases hab with
  |inBlock id'=>
   unfold exitTo
   by_cases e:(id'==id)=true
   ·rw[if_pos e,if_pos e];exact .inr ⟨_,_,rfl,rfl,hlm⟩
   ·rw[if_neg e,if_neg e];exact ih
  |code hc=>exact ih
  |inLoop hc=>exact ih
  |inScope hc=>exact ih
  |_=>exact ih
end
end Go.Proofs.YtlncengggmgdgaaGreat.par
namespace Go.Proofs.YtlncengggmgdgaaGreat.par
open Go Go.Conc
def xP:List Frame->Prop
 |[]=>True
 |[x]=>x.roundOf=none
 |_::y::l=>xP (y::l)
theorem xP.top{x y:Frame}{l:List Frame}(h:xP (x::l))(e:y.roundOf=x.roundOf):xP (y::l):=by
 cases l with
 |nil=>exact e.trans h
 |cons z l=>exact h
theorem xP.pop{x y:Frame}{l:List Frame}(h:xP (x::y::l)):xP (y::l):=h
theorem eP(fr:Frame)(v:Value):(fr.finish v).roundOf=fr.roundOf:=by
 obtain⟨fn,tmps,todo,defers,mode,kind,round⟩:=fr
 unfold Frame.finish
 dsimp only
 split<;>rfl
theorem kU(fr:Frame)(c:List PanicEntry):(fr.raise c).roundOf=fr.roundOf:=by
 obtain⟨fn,tmps,todo,defers,mode,kind,round⟩:=fr
 unfold Frame.raise
 cases mode<;>rfl
inductive eU(T:Tables)(W0:World)(Sp:FuncId->Prop)(P' P:Program)(tl tail:List Frame)(σ:Nat->Nat)(D:Nat->Prop)(u w:World)(L:World->GStep):GStep->Prop
 |go {jQ BF:Frame} {iq cs1:List Frame} {u1 w1:World} {es' es:Array Event} {σ1:Nat->Nat} {D1:Nat->Prop} (hL:∀τ,Agree τ u.tape u.drawn u1.drawn->L (tp u τ)=.go (G jQ (iq++tl)) (tp u1 τ) es')
   (hf:jf σ1 D1 T Sp P'.funcs P.funcs jQ BF) (hc:LR (jf σ1 D1 T Sp P'.funcs P.funcs) iq cs1) (hb:xP (jQ::iq)) (hm:Moved T W0 σ D u w σ1 D1 u1 w1 es):
   eU T W0 Sp P' P tl tail σ D u w L (.go (G BF (cs1++tail)) w1 es)
 |out {jQ BF:Frame} {iq cs1:List Frame} {u1 w1:World} {es' es es2:Array Event} {σ1:Nat->Nat} {D1:Nat->Prop} (hL:∀τ,Agree τ u.tape u.drawn u1.drawn->L (tp u τ)=.go (G jQ (iq++tl)) (tp u1 τ) es')
   (hf:jf σ1 D1 T Sp P'.funcs P.funcs jQ BF) (hc:LR (jf σ1 D1 T Sp P'.funcs P.funcs) iq cs1) (hb:xP (jQ::iq)) (hm:Moved T W0 σ D u w σ1 D1 u1 w1 es) (hq:pn Sp) (he:∀e∈es2,e∈es\/e.loc=.output):
   eU T W0 Sp P' P tl tail σ D u w L (.go (G BF (cs1++tail)) w1 es2)
 |special {f:FuncId} (hs:Sp f) (hk:Both P'.funcs P.funcs f) {a a':Array Value} {kind:CallKind} (hkd:kind=.normal\/kind=.deferred) {jQ BF:Frame} {iq cs1:List Frame} {u1 w1:World} {es' es:Array Event} {σ1:Nat->Nat} {D1:Nat->Prop}
   (hL:∀τ,Agree τ u.tape u.drawn u1.drawn->L (tp u τ)=.go (G (Frame.enter P' f a kind) (jQ::(iq++tl))) (tp u1 τ) es')
   (ha:dI σ1 D1 a a') (hf:jf σ1 D1 T Sp P'.funcs P.funcs jQ BF) (hc:LR (jf σ1 D1 T Sp P'.funcs P.funcs) iq cs1) (hb:xP (jQ::iq)) (hm:Moved T W0 σ D u w σ1 D1 u1 w1 es) (hd:kind=.deferred->BF.mode≠ .run) (hn:kind=.normal->BF.mode=.run) (hnd:kind=.deferred->nd f=false) (hsz:nd f=true->a.size=2):
   eU T W0 Sp P' P tl tail σ D u w L (.go (G (Frame.enter P f a' kind) (BF::(cs1++tail))) w1 es)
 |bad {s:GStep} {o:Outcome} {u1:World} {es:Array Event} (h:L u=.ended o u1 es):eU T W0 Sp P' P tl tail σ D u w L s
section
variable {T : Tables} {W0 : World} {Sp : FuncId → Prop} {P' P : Program} {tl tail : List Frame} {σ : Nat → Nat} {D : Nat → Prop} {u w : World} {L : World → GStep}
theorem fJ{o:Outcome}{u1:World}{es:Array Event}{s:GStep}(h:L u=.ended o u1 es):eU T W0 Sp P' P tl tail σ D u w L s:=.bad h
theorem Rn{fr' fr:Frame}(h:jf σ D T Sp P'.funcs P.funcs fr' fr){d d':Deferred}(hd:xY σ D d d'):jf σ D T Sp P'.funcs P.funcs {fr' with defers:=d::fr'.defers} {fr with defers:=d'::fr.defers}:=
 ⟨h.fn,h.tmps,h.todo,.cons hd h.defers,h.mode,h.kind,h.kinds,h.round,h.flat,h.known⟩
section
variable {Q : Program} {fr : Frame} {cs : List Frame} {s : Sem Next} {v0 v1 : World} {es : Array Event}
theorem Ji(hk:fr.kind≠ .early){v:Value}(hr:s.runT Q v0 #[]=(.ok (.value v) v1,es)):stepG.apply Q true fr cs none s v0=.go (G (fr.finish v) cs) v1 (seen Q fr.fn es++ #[]):=by
 have b:(fr.kind==CallKind.early)=false:=by simpa using hk
 unfold stepG.apply
 simp only[if_true,hr,b,Bool.false_eq_true,if_false]
 rfl
theorem Pm(hk:fr.kind≠ .early)(hr:s.runT Q v0 #[]=(.ok .skip v1,es)):stepG.apply Q true fr cs none s v0=.go (G (fr.finish undef) cs) v1 (seen Q fr.fn es++ #[]):=by
 have b:(fr.kind==CallKind.early)=false:=by simpa using hk
 unfold stepG.apply
 simp only[if_true,hr,b,Bool.false_eq_true,if_false]
 rfl
theorem Jj(hk:fr.kind≠ .early){d:Deferred}(hr:s.runT Q v0 #[]=(.ok (.defer d) v1,es)):stepG.apply Q true fr cs none s v0=.go (G ({fr with defers:=d::fr.defers}.finish undef) cs) v1 (seen Q fr.fn es++ #[]):=by
 have b:(fr.kind==CallKind.early)=false:=by simpa using hk
 unfold stepG.apply
 simp only[if_true,hr,b,Bool.false_eq_true,if_false]
 rfl
theorem wF(hk:fr.kind≠ .early){v:Value}(hr:s.runT Q v0 #[]=(.halt (.panic v) v1,es)):stepG.apply Q true fr cs none s v0=.go (G (fr.raise [{v,recovered:=false}]) cs) v1 (seen Q fr.fn es++ #[]):=by
 have b:(fr.kind==CallKind.early)=false:=by simpa using hk
 unfold stepG.apply
 simp only[if_true,hr,b,Bool.false_eq_true,if_false]
 rfl
theorem qB(hk:fr.kind≠ .early)(hrd:fr.roundOf=none)(hr:s.runT Q v0 #[]=(.ok .recover v1,es))(ht:tryRecover fr cs=none):stepG.apply Q true fr cs none s v0=.go (G (fr.finish .nilIface) cs) v1 (seen Q fr.fn es++ #[]):=by
 have b:(fr.kind==CallKind.early)=false:=by simpa using hk
 unfold stepG.apply
 simp only[if_true,hr,b,Bool.false_eq_true,if_false,hrd,ht]
 rfl
theorem qC(hk:fr.kind≠ .early)(hrd:fr.roundOf=none)(hr:s.runT Q v0 #[]=(.ok .recover v1,es)){v:Value}{cs2:List Frame}(ht:tryRecover fr cs=some (v,cs2)):stepG.apply Q true fr cs none s v0=.go (G (fr.finish v) cs2) v1 (seen Q fr.fn es++ #[]):=by
 have b:(fr.kind==CallKind.early)=false:=by simpa using hk
 unfold stepG.apply
 simp only[if_true,hr,b,Bool.false_eq_true,if_false,hrd,ht]
 rfl
theorem Jk(hk:fr.kind≠ .early){l:Nat}{f:FuncId}{t:Array Value}{a b:Code}(hr:s.runT Q v0 #[]=(.ok (.round l f t a b) v1,es)):stepG.apply Q true fr cs none s v0=.go (G (Frame.round l f t a b .normal) (fr::cs)) v1 (seen Q fr.fn es++ #[]):=by
 have b:(fr.kind==CallKind.early)=false:=by simpa using hk
 unfold stepG.apply
 simp only[if_true,hr,b,Bool.false_eq_true,if_false]
 rfl
theorem MQ(hk:fr.kind≠ .early){h:Halt}(hb:cZ h)(hr:s.runT Q v0 #[]=(.halt h v1,es)):∃o es',stepG.apply Q true fr cs none s v0=.ended o v1 es':=by
 have b:(fr.kind==CallKind.early)=false:=by simpa using hk
 unfold stepG.apply
 simp only[if_true,hr,b,Bool.false_eq_true,if_false]
 cases h with
 |stuck s=>exact⟨_,_,rfl⟩
 |unsupported uu=>cases uu<;>first|exact⟨_,_,rfl⟩|exact hb.elim
 |_=>exact hb.elim
def MS(l:List Item):Prop:=∀d b r sv k,l≠ .call d b r sv::k
theorem BG(hk:fr.kind≠ .early)(hn:MS fr.todo){f:FuncId}{a:Array Value}(hr:s.runT Q v0 #[]=(.ok (.enter f a) v1,es)):stepG.apply Q true fr cs none s v0=.go (G (Frame.enter Q f a .normal) (fr::cs)) v1 (seen Q fr.fn es++ #[]):=by
 have b:(fr.kind==CallKind.early)=false:=by simpa using hk
 obtain⟨fn,tmps,todo,defers,mode,kind,round⟩:=fr
 unfold stepG.apply
 dsimp only at hn b
 simp only[if_true,hr,b,Bool.false_eq_true,if_false]
 rcases todo with _|⟨i,k⟩
 ·rfl
 ·cases i<;>first|rfl|exact absurd rfl (hn _ _ _ _ _)
end
theorem MV{fr' fr:Frame}(h:jf σ D T Sp P'.funcs P.funcs fr' fr):MS fr'.todo/\MS fr.todo:=by
 have ht:=h.todo
 revert ht
 generalize fr'.todo=l
 generalize fr.todo=m
 intro ht
 cases ht with
 |nil=>exact⟨λ_ _ _ _ _ e=>(by cases e),λ_ _ _ _ _ e=>(by cases e)⟩
 |cons hab _=>cases hab<;>exact⟨λ_ _ _ _ _ e=>(by cases e),λ_ _ _ _ _ e=>(by cases e)⟩
def Quiet(l:List Frame):Prop:=∀c r,l=c::r->∀ch,c.mode≠ .panicking ch
theorem Quiet.nil:Quiet []:=λ_ _ e=>by cases e
theorem Zc{T:Tables}{Sp:FuncId->Prop}{F' F:Array Func}{σ:Nat->Nat}{D:Nat->Prop}{tl tail:List Frame}(hq:Quiet tl/\Quiet tail){fr' fr:Frame}{cs' cs:List Frame}(hf:jf σ D T Sp F' F fr' fr)(hc:LR (jf σ D T Sp F' F) cs' cs):
  (tryRecover fr' (cs'++tl)=none/\tryRecover fr (cs++tail)=none)\/
  ∃v' v iq cs1,tryRecover fr' (cs'++tl)=some (v',iq++tl)/\tryRecover fr (cs++tail)=some (v,cs1++tail)/\VR σ D v' v/\LR (jf σ D T Sp F' F) iq cs1/\∀x,xP (x::cs')->xP (x::iq):=by
 have quiet:∀{l:List Frame}{fr:Frame},fr.kind=.deferred->Quiet l->tryRecover fr l=none:=by
  intro l fr hk hq
  rcases l with _|⟨c,r⟩
  ·unfold tryRecover;rw[hk]
  ·have h:=hq c r rfl
   unfold tryRecover
   rw[hk]
   dsimp only
   split
   ·rename_i hm
    exact absurd hm (h _)
   ·rfl
 have norm:∀{l:List Frame}{fr:Frame},fr.kind=.normal->tryRecover fr l=none:=by
  intro l fr hk
  unfold tryRecover
  rw[hk]
 rcases hf.kinds with hk|hk
 ·exact .inl ⟨norm (hf.kind.trans hk),norm hk⟩
 have hk':=hf.kind.trans hk
 cases hc with
 |nil=>exact .inl ⟨quiet hk' hq.1,quiet hk hq.2⟩
 | @cons c' c l m hcc hrest=>
  obtain⟨fn',gV,todo',defers',Pj,kind',round'⟩:=c'
  obtain⟨fn,tmps,todo,defers,mode,kind,round⟩:=c
  obtain⟨h1,h2,h3,h4,h5,h6,h7,h8,h9,h10⟩:=hcc
  dsimp only at h1 h2 h3 h4 h5 h6 h7 h8 h9 h10
  unfold tryRecover
  rw[hk,hk']
  dsimp only[List.cons_append]
  cases h5 with
  |run=>exact .inl ⟨rfl,rfl⟩
  |returning=>exact .inl ⟨rfl,rfl⟩
  |panicking hch=>
   cases hch with
   |nil=>exact .inl ⟨rfl,rfl⟩
   |cons hab hch=>
    cases hab with
    |mk r hv=>
     cases r
     ·exact .inr ⟨_,_,_::l,_::m,rfl,rfl,hv,.cons ⟨h1,h2,h3,h4,.panicking (.cons (.mk true hv) hch),h6,h7,h8,h9,h10⟩ hrest,λx hx=>(xP.pop hx).top (y:=⟨fn',gV,todo',defers',.panicking _,kind',round'⟩) rfl⟩
     ·exact .inl ⟨rfl,rfl⟩
theorem EG{T:Tables}{Sp:FuncId->Prop}{F' F:Array Func}{σ:Nat->Nat}{D:Nat->Prop}(hT:T=vG)(hB:vZ T Sp F' F){l:Nat}(hl:D l){f:FuncId}(hf:f<AB){t t':Array Value}(h:dI σ D t t'){a a' b b':Code}(ha:dQ vG False true a a')(hb:dQ vG False true b b'){kind:CallKind}(hkd:kind=.normal\/kind=.deferred):
  jf σ D T Sp F' F (Frame.round l f t a b kind) (Frame.round (σ l) f t' a' b' kind):=by
 subst hT
 exact⟨rfl,h,.cons (.code (ha.mono False.elim λ_=>rfl)) (.cons .beginRound (.cons (.code (hb.mono False.elim λ_=>rfl)) .nil)),.nil,.run,rfl,hkd,.some hl,trivial,hB.kn f hf⟩
theorem sU(hT:T=vG)(hq:Quiet tl/\Quiet tail)(hP':P'.toTables=T)(hP:P.toTables=T)(hB:vZ T Sp P'.funcs P.funcs)(h:Sit σ D T W0 u w)(hy:Sync u w){fr' fr:Frame}{cs' cs:List Frame}(hf:jf σ D T Sp P'.funcs P.funcs fr' fr)(hc:LR (jf σ D T Sp P'.funcs P.funcs) cs' cs)(fC:xP (fr'::cs'))(hm0:fr.mode=.run)
  {s s':Sem Next} (hs:∀σ1 D1,Up σ D σ1 D1->zV σ1 D1->Glob σ1 D1 T->ay σ1 D1 P' P (jF σ1 D1 fr'.roundOf.isSome P'.funcs P.funcs) s s'):
  eU T W0 Sp P' P tl tail σ D u w (λu=>stepG.apply P' true fr' (cs'++tl) none s u) (stepG.apply P true fr (cs++tail) none s' w):=by
 have hrun:=pJ (R:=λσ1 D1=>jF σ1 D1 fr'.roundOf.isSome P'.funcs P.funcs) hP' hP h hy hs
 have hk:fr.kind≠ .early:=by rcases hf.kinds with e|e<;>rw[e]<;>exact CallKind.noConfusion
 have hk':fr'.kind≠ .early:=by rw[hf.kind];exact hk
 rcases hx:s.runT P' u #[]with⟨r,es0⟩
 rcases hx':s'.runT P w #[]with⟨r',es⟩
 have ht:=jT (R:=λσ1 D1=>jF σ1 D1 fr'.roundOf.isSome P'.funcs P.funcs) hP' hP h hy hs hx
 rw[hx,hx']at hrun
 have hsub:∀{es:Array Event}{fn:FuncId},∀e∈seen P fn es++ #[],e∈es:=λe he=>mem_seen (by simpa using he)
 rcases r with⟨n,u1⟩|⟨h0,u1⟩
 ·rcases r' with⟨n',w1⟩|⟨h1,w1⟩
  ·obtain⟨σ1,D1,hm,hn⟩:=hrun
   have hf1:=hf.up hm.up
   have hc1:=hc.mono λ_ _ x=>jf.up hm.up x
   cases hn with
   |value hv=>
    rw[Ji hk hx']
    exact .go (λτ hτ=>Ji hk' (ht τ hτ)) (gB hf1 hv) hc1 (fC.top (eP _ _)) (hm.sub hsub)
   |skip=>
    rw[Pm hk hx']
    exact .go (λτ hτ=>Pm hk' (ht τ hτ)) (gB hf1 pK) hc1 (fC.top (eP _ _)) (hm.sub hsub)
   |recover hrd=>
    have hr1':fr'.roundOf=none:=by simpa using hrd
    have hr1:fr.roundOf=none:=by
     have h0:=hf1.round
     rw[hr1']at h0
     revert h0
     generalize fr.roundOf=y
     intro h0
     cases h0
     rfl
    rcases Zc hq hf1 hc1 with⟨e1,e2⟩|⟨v',v,iq,cs1,e1,e2,hv,hcs,hbt⟩
    ·rw[qB hk hr1 hx' e2]
     exact .go (λτ hτ=>qB hk' hr1' (ht τ hτ) e1) (gB hf1 .iH) hc1 (fC.top (eP _ _)) (hm.sub hsub)
    ·rw[qC hk hr1 hx' e2]
     exact .go (λτ hτ=>qC hk' hr1' (ht τ hτ) e1) (gB hf1 hv) hcs ((hbt _ fC).top (eP _ _)) (hm.sub hsub)
   |enter f hkb ha h2=>
    rw[BG hk (MV hf).2 hx']
    by_cases hsp:Sp f
    ·exact .special hsp hkb (.inl rfl) (λτ hτ=>BG hk' (MV hf).1 (ht τ hτ)) ha hf1 hc1 fC (hm.sub hsub) (λe=>by cases e) (λ_=>hm0) (λe=>by cases e) h2
    ·exact .go (iq:=fr'::cs') (cs1:=fr::cs) (λτ hτ=>BG hk' (MV hf).1 (ht τ hτ)) (l9 hB hkb hsp ha (.inl rfl) rfl rfl) (.cons hf1 hc1) fC (hm.sub hsub)
   |defer hd=>
    rw[Jj hk hx']
    exact .go (λτ hτ=>Jj hk' (ht τ hτ)) (gB (Rn hf1 hd) pK) hc1 (fC.top (eP _ _)) (hm.sub hsub)
   |round hl f hf0 ht2 hA hBc=>
    rw[Jk hk hx']
    exact .go (iq:=fr'::cs') (cs1:=fr::cs) (λτ hτ=>Jk hk' (ht τ hτ)) (EG hT hB hl hf0 ht2 hA hBc (.inl rfl)) (.cons hf1 hc1) fC (hm.sub hsub)
  ·exact hrun.elim
 ·by_cases hp:∃v,h0=.panic v
  ·obtain⟨v,rfl⟩:=hp
   rcases r' with⟨n',w1⟩|⟨h1,w1⟩
   ·exact hrun.elim
   ·cases h1 with
    |panic v'=>
     obtain⟨σ1,D1,hm,hv⟩:=hrun
     rw[wF hk hx']
     exact .go (λτ hτ=>wF hk' (ht τ hτ)) (oC (hf.up hm.up) (.cons (.mk false hv) .nil)) (hc.mono λ_ _ x=>jf.up hm.up x) (fC.top (kU _ _)) (hm.sub hsub)
    |_=>exact hrun.elim
  ·have hb:cZ h0:=by
    cases h0<;>first|exact hrun|exact absurd ⟨_,rfl⟩ hp
   obtain⟨o,es',e⟩:=MQ (cs:=cs'++tl) hk' hb hx
   exact fJ e
theorem Ro{P' P:Program}{v v':Value}(h:VR σ D v v')(hne:v≠ .nilIface):ay σ D P' P (λ_ _=>False) (Instr.panic v) (Instr.panic v'):=by
 cases h<;>first|exact .panic (.iface _ (by assumption))|exact absurd rfl hne|exact .dead (.halt trivial)|(rename_i hv;unfold Instr.panic;split<;>first|(simp[UN]at hv;done)|exact .dead (.halt trivial))
theorem Vm{α:Type}(P:Program)(s:Sem α):∀w:World,∃r l,∀es:Array Event,s.runT P w es=(r,es++l):=by
 induction s with
 |pure a=>intro w;exact⟨.ok a w,#[],λes=>by simp[Sem.runT]⟩
 |load m a k ih=>
  intro w
  rcases hc:w.cell? a with _|v
  ·rcases hf:w.farLoad P a (m== .atomic)with e|⟨v,L⟩
   ·exact⟨.halt e w,#[],λes=>by simp only[Sem.runT,hc,hf];simp⟩
   ·obtain⟨r,l,h⟩:=ih v w
    exact⟨r,L.toArray.map (⟨.cell ·,false,m== .atomic⟩)++l,λes=>by simp only[Sem.runT,hc,hf];rw[h,Array.append_assoc]⟩
  ·obtain⟨r,l,h⟩:=ih v w
   exact⟨r,#[⟨.cell a,false,m== .atomic⟩]++l,λes=>by simp only[Sem.runT,hc];rw[h];simp⟩
 |store m a v k ih=>
  intro w
  by_cases hn:(∃c,v=.agg c)\/(∃c,v=.tuple c)
  ·rcases hn with⟨c,rfl⟩|⟨c,rfl⟩
   ·exact⟨((Sem.store m a (.agg c) k).runT P w #[]).1,#[],λes=>by simp[Sem.runT]⟩
   ·exact⟨((Sem.store m a (.tuple c) k).runT P w #[]).1,#[],λes=>by simp[Sem.runT]⟩
  have e1:∀es,(Sem.store m a v k).runT P w es=(match w.cell? a with
    |some _=>if w.frozen? a then(.halt (.unsupported (.unsafePointer "a write to bytes that a string shares")) w,es)else k.runT P (w.setCell a v) (es.push ⟨.cell a,true,m== .atomic⟩)
    |none=>match w.farStore P a v (m== .atomic)with
     | .ok (w,touched)=>k.runT P w (es++touched.toArray.map (⟨.cell ·,true,m== .atomic⟩))
     | .error h=>(.halt h w,es)):=by
   intro es
   cases v<;>first|rfl|exact absurd (.inl ⟨_,rfl⟩) hn|exact absurd (.inr ⟨_,rfl⟩) hn
  rcases hc:w.cell? a with _|v0
  ·rcases hf:w.farStore P a v (m== .atomic)with e|⟨w1,L⟩
   ·exact⟨.halt e w,#[],λes=>by rw[e1];simp only[hc,hf];simp⟩
   ·obtain⟨r,l,h⟩:=ih w1
    exact⟨r,L.toArray.map (⟨.cell ·,true,m== .atomic⟩)++l,λes=>by rw[e1];simp only[hc,hf];rw[h,Array.append_assoc]⟩
  ·by_cases hz:w.frozen? a=true
   ·exact⟨.halt (.unsupported (.unsafePointer "a write to bytes that a string shares")) w,#[],λes=>by rw[e1];simp only[hc,hz,if_true];simp⟩
   ·obtain⟨r,l,h⟩:=ih (w.setCell a v)
    exact⟨r,#[⟨.cell a,true,m== .atomic⟩]++l,λes=>by rw[e1];simp only[hc,if_neg hz];rw[h];simp⟩
 |new o k ih=>intro w;obtain⟨r,l,h⟩:=ih w.heap.size {w with heap:=w.heap.push o};exact⟨r,l,λes=>h es⟩
 |shape r k ih=>intro w;obtain⟨r,l,h⟩:=ih (w.shape? r) w;exact⟨r,l,λes=>h es⟩
 |freeze a n k ih=>intro w;obtain⟨r,l,h⟩:=ih (w.freeze a n);exact⟨r,l,λes=>h es⟩
 |frozen a k ih=>intro w;obtain⟨r,l,h⟩:=ih (w.frozen? a) w;exact⟨r,l,λes=>h es⟩
 |getObj b k ih=>
  intro w
  rcases ho:w.heap[b]? with _|o
  ·exact⟨.halt (.stuck "getObj: no such block") w,#[],λes=>by simp only[Sem.runT,ho];simp⟩
  ·obtain⟨r,l,h⟩:=ih o w
   cases o with
   |cells c e f=>exact⟨.halt (.stuck "getObj: a row of cells") w,#[],λes=>by simp only[Sem.runT,ho];simp⟩
   |_=>exact⟨r,#[⟨.obj b,false,Obj.isChan _⟩]++l,λes=>by simp only[Sem.runT,ho];rw[h];simp;rfl⟩
 |setObj b o k ih=>
  intro w
  obtain⟨r,l,h⟩:=ih {w with heap:=w.heap.setIfInBounds b o}
  rcases ho:w.heap[b]? with _|o'
  ·exact⟨.halt (.stuck "setObj: no such block") w,#[],λes=>by simp only[Sem.runT,ho];simp⟩
  ·cases o' with
   |cells c e f=>exact⟨.halt (.stuck "setObj: a row of cells") w,#[],λes=>by simp only[Sem.runT,ho];simp⟩
   |_=>exact⟨r,#[⟨.obj b,true,o.isChan⟩]++l,λes=>by simp only[Sem.runT,ho];rw[h];simp⟩
 |choose q k ih=>
  intro w
  by_cases hq:q.forced=true
  ·obtain⟨r,l,h⟩:=ih 0 w
   exact⟨r,l,λes=>by simp only[Sem.runT,hq,if_true];exact h es⟩
  ·obtain⟨r,l,h⟩:=ih (q.cut (w.tape w.drawn q)) {w with drawn:=w.drawn+1}
   exact⟨r,l,λes=>by simp only[Sem.runT,if_neg hq];exact h es⟩
 |sys c k ih=>intro w;obtain⟨r,l,h⟩:=ih (w.sys c).1 (w.sys c).2;exact⟨r,#[⟨.output,true,false⟩]++l,λes=>by simp only[Sem.runT];rw[h];simp⟩
 |program k ih=>intro w;obtain⟨r,l,h⟩:=ih P w;exact⟨r,l,λes=>h es⟩
 |mark m k ih=>intro w;obtain⟨r,l,h⟩:=ih w;exact⟨r,#[⟨.mark m,false,true⟩]++l,λes=>by simp only[Sem.runT];rw[h];simp⟩
 |halt h=>intro w;exact⟨.halt h w,#[],λes=>by simp[Sem.runT]⟩
theorem Vo:∃K:SysRet->Sem Next,(do Pure.pure (.value (<-Instr.panic .nilIface)):Sem Next)=.sys .env K/\∀(σ:Nat->Nat)(D:Nat->Prop)(T:Tables)(F' F:Array Func)(r:SysRet),ay σ D (⟨T,F'⟩:Program) (⟨T,F⟩:Program) (λ_ _=>False) (K r) (K r):=by
 refine⟨_,rfl,λσ D T F' F r=> ?_⟩
 cases r<;>first|exact .dead (.halt trivial)|skip
 have key:∀n:Int,ay σ D (⟨T,F'⟩:Program) (⟨T,F⟩:Program) (λ_ _=>False) (if(n==1)=true then goPanic Value.nilIface else runtimePanic RuntimeError.panicNil:Sem Value) (if(n==1)=true then goPanic Value.nilIface else runtimePanic RuntimeError.panicNil:Sem Value):=by
  intro n
  split
  ·exact .panic .iH
  ·unfold runtimePanic
   refine dh ?_
   dsimp only
   unfold elemOf
   refine ay.bind (R:=Eq) (dA _ λd=> ?_) (λe e' h=> ?_)
   ·cases d<;>first|exact aj|exact ak rfl
   ·subst h
    exact(xU e (UQ (by simp))).bind λa b hab=>.panic (.iface _ (.ptr hab))
 refine .program ?_
 exact ay.bind (key _) (λ_ _ h=>h.elim)
theorem Gg{K:SysRet->Sem Next}{Q:Program}{v0:World}{r:Result Next}{es:Array Event}(h:(K (.strings v0.os.env)).runT Q v0 #[]=(r,es)):(Sem.sys .env K).runT Q v0 #[]=(r,#[⟨.output,true,false⟩]++es):=by
 obtain⟨r',l,hl⟩:=Vm Q (K (.strings v0.os.env)) v0
 have h0:=hl #[]
 rw[h]at h0
 cases h0
 have e:(Sem.sys .env K).runT Q v0 #[]=(K (.strings v0.os.env)).runT Q v0 #[⟨.output,true,false⟩]:=rfl
 rw[e,hl]
 simp
theorem Rq{F' F:Array Func}(hT:T=vG)(hq1:pn Sp)(hB:vZ T Sp F' F)(hq:Quiet tl/\Quiet tail)(h:Sit σ D T W0 u w)(hy:Sync u w){fr' fr:Frame}{cs' cs:List Frame}(hf:jf σ D T Sp F' F fr' fr)(hc:LR (jf σ D T Sp F' F) cs' cs)(fC:xP (fr'::cs'))(hm0:fr.mode=.run){o:Oper}(hp:UL o.op=true)
  (he:∀x,dZ x=true->VR σ D (fr'.eval x) (fr.eval x)):
  eU T W0 Sp ⟨T,F'⟩ ⟨T,F⟩ tl tail σ D u w (λu=>stepG.apply ⟨T,F'⟩ true fr' (cs'++tl) none (execOp fr'.eval o) u) (stepG.apply ⟨T,F⟩ true fr (cs++tail) none (execOp fr.eval o) w):=by
 obtain⟨dst,op,type,pos,after,guard⟩:=o
 dsimp only at hp
 cases op<;>first|(exact absurd (show false=true from hp) Bool.false_ne_true)|skip
 rename_i x
 have hv:=he x hp
 show eU T W0 Sp ⟨T,F'⟩ ⟨T,F⟩ tl tail σ D u w (λu=>stepG.apply ⟨T,F'⟩ true fr' (cs'++tl) none (do Pure.pure (.value (<-Instr.panic (fr'.eval x)))) u) (stepG.apply ⟨T,F⟩ true fr (cs++tail) none (do Pure.pure (.value (<-Instr.panic (fr.eval x)))) w)
 revert hv
 generalize fr'.eval x=v'
 generalize fr.eval x=v
 intro hv
 by_cases hn:v'=.nilIface
 ·subst hn
  obtain rfl:v=.nilIface:=by cases hv<;>rfl
  obtain⟨K,hK,hS⟩:=Vo
  rw[hK]
  have hk:fr.kind≠ .early:=by rcases hf.kinds with e|e<;>rw[e]<;>exact CallKind.noConfusion
  have hk':fr'.kind≠ .early:=by rw[hf.kind];exact hk
  have hs:∀σ1 D1,Up σ D σ1 D1->zV σ1 D1->Glob σ1 D1 T->ay σ1 D1 (⟨T,F'⟩:Program) (⟨T,F⟩:Program) (λ_ _=>False) (K (.strings u.os.env)) (K (.strings w.os.env)):=λσ1 D1 _ _ _=>by rw[h.wr.os];exact hS σ1 D1 T F' F _
  have hrun:=pJ (P':=⟨T,F'⟩) (P:=⟨T,F⟩) (R:=λ_ _ _ _=>False) rfl rfl h hy hs
  rcases hx:(K (.strings u.os.env)).runT (⟨T,F'⟩:Program) u #[]with⟨r,es0⟩
  rcases hx':(K (.strings w.os.env)).runT (⟨T,F⟩:Program) w #[]with⟨r',es⟩
  have ht:=jT (P':=⟨T,F'⟩) (P:=⟨T,F⟩) (R:=λ_ _ _ _=>False) rfl rfl h hy hs hx
  rw[hx,hx']at hrun
  rcases r with⟨n,u1⟩|⟨h0,u1⟩
  ·rcases r' with⟨n',w1⟩|⟨h1,w1⟩
   ·obtain⟨_,_,_,hh⟩:=hrun
    exact hh.elim
   ·exact hrun.elim
  ·by_cases hpn:∃v,h0=.panic v
   ·obtain⟨v,rfl⟩:=hpn
    rcases r' with⟨n',w1⟩|⟨h1,w1⟩
    ·exact hrun.elim
    ·cases h1 with
     |panic v'=>
      obtain⟨σ1,D1,hm,hv⟩:=hrun
      rw[wF hk (Gg hx')]
      exact .out (λτ hτ=>wF hk' (Gg (v0:=tp u τ) (ht τ hτ))) (oC (hf.up hm.up) (.cons (.mk false hv) .nil)) (hc.mono λ_ _ x=>jf.up hm.up x) (fC.top (kU _ _)) hm hq1 (λe he=>by
       have:=mem_seen (by simpa using he)
       rcases Array.mem_append.1 this with h1|h1
       ·exact .inr (by rw[mem_push h1])
       ·exact .inl h1)
     |_=>exact hrun.elim
   ·have hb:cZ h0:=by
     cases h0<;>first|exact hrun|exact absurd ⟨_,rfl⟩ hpn
    obtain⟨o,es',e⟩:=MQ (cs:=cs'++tl) hk' hb (Gg hx)
    exact fJ e
 ·exact sU hT hq (P':=⟨T,F'⟩) (P:=⟨T,F⟩) rfl rfl hB h hy hf hc fC hm0 (λσ1 D1 hu _ _=>(Ro (VR.up hu hv) hn).bind λ_ _ x=>x.elim)
end
end Go.Proofs.YtlncengggmgdgaaGreat.par
namespace Go.Proofs.YtlncengggmgdgaaGreat.par
open Go Go.Conc
section
variable {Q : Program} {main : Bool} {fx c : Frame} {cx : List Frame} {v0 v1 : World} {es : Array Event}
theorem kJ{v:Value}(hk:fx.kind=.normal):doReturn Q main fx (c::cx) none v v0=.go (G (c.finish v) cx) v0 #[]:=by
 unfold doReturn
 simp only[hk]
 rfl
def nK(fr:Frame):Prop:=∀ch,fr.mode=.panicking ch->∀e∈ch,e.goexit=false
def EH(c:Frame):Frame:=
 match c.mode with
 | .panicking (⟨_,true,_⟩::_)=>{c with mode:=.returning}
 |_=>c
theorem jH{v:Value}(hk:fx.kind=.deferred)(hf:nK c):doReturn Q main fx (c::cx) none v v0=.go (G (EH c) cx) v0 #[]:=by
 obtain⟨fn,tmps,todo,defers,mode,kind,round⟩:=c
 unfold doReturn
 simp only[hk]
 unfold nK at hf
 dsimp only at hf
 cases mode with
 |run=>rfl
 |returning=>rfl
 |panicking ch=>
  rcases ch with _|⟨⟨v,r,g⟩,older⟩
  ·rfl
  ·cases r
   ·rfl
   ·have h0:older.dropWhile (!·.goexit)=[]:=by
     have h1:∀e∈older,e.goexit=false:=λe he=>hf _ rfl e (List.mem_cons_of_mem _ he)
     clear hf
     induction older with
     |nil=>rfl
     |cons x l ih=>
      rw[List.dropWhile_cons,h1 x (List.mem_cons_self ..)]
      exact ih λe he=>h1 e (List.mem_cons_of_mem _ he)
    dsimp only
    rw[h0]
    rfl
theorem rD(c:Frame):(EH c).roundOf=c.roundOf:=by
 unfold EH
 split<;>rfl
def Leaves(fr:Frame)(j:Option Code):Prop:=
 (fr.todo=[]/\j=none)\/(∃k,fr.todo=.code .ret::k/\j=some .ret)\/∃id k,fr.todo=.code (.exit id)::k/\exitTo id k=none/\j=some (.exit id)
theorem BH{l:Nat}{j:Option Code}(hl:Leaves fx j)(ho:fx.roundOf=some l){v:Value}(hr:(Instr.endRound l j).runT Q v0 #[]=(.ok v v1,es)):stepG.exec Q main true fx cx none v0=GStep.after (seen Q fx.fn es) (doReturn Q main fx cx none v v1):=by
 obtain⟨fn,tmps,todo,defers,mode,kind,round⟩:=fx
 dsimp only at ho
 subst ho
 rcases hl with⟨h1,rfl⟩|⟨k,h1,rfl⟩|⟨id,k,h1,h2,rfl⟩<;>dsimp only at h1<;>subst h1<;>unfold stepG.exec
 ·simp only[hr]
 ·simp only[hr]
 ·simp only[h2,Option.elim,hr]
theorem Gh{l:Nat}{j:Option Code}(hl:Leaves fx j)(ho:fx.roundOf=some l){h:Halt}(hr:(Instr.endRound l j).runT Q v0 #[]=(.halt h v1,es)):∃o es',stepG.exec Q main true fx cx none v0=.ended o v1 es':=by
 obtain⟨fn,tmps,todo,defers,mode,kind,round⟩:=fx
 dsimp only at ho
 subst ho
 rcases hl with⟨h1,rfl⟩|⟨k,h1,rfl⟩|⟨id,k,h1,h2,rfl⟩<;>dsimp only at h1<;>subst h1<;>unfold stepG.exec
 ·simp only[hr];exact⟨_,_,rfl⟩
 ·simp only[hr];exact⟨_,_,rfl⟩
 ·simp only[h2,Option.elim,hr];exact⟨_,_,rfl⟩
end
section
variable {T : Tables} {W0 : World} {Sp : FuncId → Prop} {F' F : Array Func} {tl tail : List Frame} {σ : Nat → Nat} {D : Nat → Prop} {u w : World}
theorem jI{fr' fr:Frame}(hx:jf σ D T Sp F' F fr' fr):nK fr'/\nK fr:=by
 have key:∀{c c':List PanicEntry},LR (PeR σ D) c c'->(∀e∈c,e.goexit=false)/\∀e∈c',e.goexit=false:=by
  intro c c' h
  induction h with
  |nil=>exact⟨λe he=>(by cases he),λe he=>(by cases he)⟩
  |cons hab _ ih=>
   cases hab with
   |mk r hv=>
    exact⟨λe he=>(List.mem_cons.1 he).elim (λx=>by rw[x]) (ih.1 e),λe he=>(List.mem_cons.1 he).elim (λx=>by rw[x]) (ih.2 e)⟩
 have hm:=hx.mode
 constructor
 ·intro ch e
  rw[e]at hm
  revert hm
  generalize fr.mode=y
  intro hm
  cases hm with
  |panicking hch=>exact(key hch).1
 ·intro ch e
  rw[e]at hm
  revert hm
  generalize fr'.mode=y
  intro hm
  cases hm with
  |panicking hch=>exact(key hch).2
theorem yh{fr' fr:Frame}(h:jf σ D T Sp F' F fr' fr):jf σ D T Sp F' F (EH fr') (EH fr):=by
 obtain⟨fn',gV,todo',defers',Pj,kind',round'⟩:=fr'
 obtain⟨fn,tmps,todo,defers,mode,kind,round⟩:=fr
 have hh:=h
 obtain⟨h1,h2,h3,h4,h5,h6,h7,h8,h9,h10⟩:=h
 dsimp only at h1 h2 h3 h4 h5 h6 h7 h8 h9 h10
 cases h5 with
 |run=>exact hh
 |returning=>exact hh
 |panicking hch=>
  cases hch with
  |nil=>exact hh
  |cons hab _=>
   cases hab with
   |mk r hv=>
    cases r
    ·exact hh
    ·exact⟨h1,h2,h3,h4,.returning,h6,h7,h8,h9,h10⟩
theorem EI(h:Sit σ D T W0 u w)(hy:Sync u w){fr' fr:Frame}{cs' cs:List Frame}(hf:jf σ D T Sp F' F fr' fr)(hc:LR (jf σ D T Sp F' F) cs' cs)(fC:xP (fr'::cs'))(main:Bool){l:Nat}(ho':fr'.roundOf=some l)(hl:D l)(ho:fr.roundOf=some (σ l)){j:Option Code}(hL':Leaves fr' j)(hL:Leaves fr j)(hj:AP j j):
  eU T W0 Sp ⟨T,F'⟩ ⟨T,F⟩ tl tail σ D u w (λu=>stepG.exec ⟨T,F'⟩ true true fr' (cs'++tl) none u) (stepG.exec ⟨T,F⟩ main true fr (cs++tail) none w):=by
 have hs:∀σ1 D1,Up σ D σ1 D1->zV σ1 D1->Glob σ1 D1 T->ay σ1 D1 (⟨T,F'⟩:Program) (⟨T,F⟩:Program) (VR σ1 D1) (Instr.endRound l j) (Instr.endRound (σ l) j):=λσ1 D1 hu _ _=>by
  rw[<-(hu l hl).2]
  exact Je (hu l hl).1 hj
 have hrun:=pJ (P':=⟨T,F'⟩) (P:=⟨T,F⟩) (R:=λσ1 D1=>VR σ1 D1) rfl rfl h hy hs
 rcases hx:(Instr.endRound l j).runT (⟨T,F'⟩:Program) u #[]with⟨r,es0⟩
 rcases hx':(Instr.endRound (σ l) j).runT (⟨T,F⟩:Program) w #[]with⟨r',es⟩
 have ht:=jT (P':=⟨T,F'⟩) (P:=⟨T,F⟩) (R:=λσ1 D1=>VR σ1 D1) rfl rfl h hy hs hx
 rw[hx,hx']at hrun
 have hsub:∀{es:Array Event}{fn:FuncId},∀e∈seen (⟨T,F⟩:Program) fn es++ #[],e∈es:=λe he=>mem_seen (by simpa using he)
 rcases r with⟨v',u1⟩|⟨h0,u1⟩
 ·rcases r' with⟨v,w1⟩|⟨h1,w1⟩
  ·obtain⟨σ1,D1,hm,hv⟩:=hrun
   cases hc with
   |nil=>exact absurd (ho'.symm.trans fC) (by simp)
   | @cons c' c l2 m hcc hrest=>
    have h1:=hcc.up hm.up
    have h2:=hrest.mono λ_ _ x=>jf.up hm.up x
    have hpop:=xP.pop fC
    rw[List.cons_append,List.cons_append,BH hL ho hx']
    rcases hf.kinds with e|e
    ·rw[kJ e]
     exact .go (λτ hτ=>by
      show stepG.exec _ _ _ _ (c'::(l2++tl)) _ _=_
      rw[BH hL' ho' (ht τ hτ),kJ (hf.kind.trans e)]
      rfl) (gB h1 hv) h2 (hpop.top (eP _ _)) (hm.sub hsub)
    ·rw[jH e (jI h1).2]
     exact .go (λτ hτ=>by
      show stepG.exec _ _ _ _ (c'::(l2++tl)) _ _=_
      rw[BH hL' ho' (ht τ hτ),jH (hf.kind.trans e) (jI h1).1]
      rfl) (yh h1) h2 (hpop.top (rD _)) (hm.sub hsub)
  ·exact hrun.elim
 ·obtain⟨o,es',e⟩:=Gh (main:=true) (cx:=cs'++tl) hL' ho' hx
  exact fJ e
end
end Go.Proofs.YtlncengggmgdgaaGreat.par
namespace Go.Proofs.YtlncengggmgdgaaGreat.par
open Go Go.Conc
section
variable {T : Tables} {W0 : World} {Sp : FuncId → Prop} {F' F : Array Func} {tl tail : List Frame} {σ σ1 σ2 : Nat → Nat} {D D1 D2 : Nat → Prop} {u w u1 w1 u2 w2 : World}
theorem uf.up(h:Up σ D σ1 D1){e:Event}(he:uf σ D e):uf σ1 D1 e:=by
 obtain⟨loc,wr,sy⟩:=e
 cases loc with
 |cell a=>
  obtain⟨r,hr,e⟩:=he
  exact⟨r,(h r hr).1,by rw[(h r hr).2];exact e⟩
 |obj b=>
  obtain⟨r,hr,e⟩:=he
  exact⟨r,(h r hr).1,by rw[(h r hr).2];exact e⟩
 |mark m=>
  obtain⟨m',hm⟩:=he
  cases hm with
  |acquire ha=>exact⟨_,.acquire (ha.up h)⟩
  |release ha=>exact⟨_,.release (ha.up h)⟩
  |releaseMerge ha=>exact⟨_,.releaseMerge (ha.up h)⟩
  |extern f=>exact⟨_,.extern f⟩
  |noRoom=>exact⟨_,.noRoom⟩
 |_=>exact he
theorem Moved.trans{es1 es2:Array Event}(h:Sit σ D T W0 u w)(h1:Moved T W0 σ D u w σ1 D1 u1 w1 es1)(h2:Moved T W0 σ1 D1 u1 w1 σ2 D2 u2 w2 es2):Moved T W0 σ D u w σ2 D2 u2 w2 (es1++es2):=by
 have z1:=h1.turned.size
 have z2:=h2.turned.size
 have l1:=h1.turned.lone.size
 have l2:=h2.turned.lone.size
 have Jl:=h2.up
 have up:Up σ D σ2 D2:=λr hr=>⟨(Jl r (h1.up r hr).1).1,(Jl r (h1.up r hr).1).2.trans (h1.up r hr).2⟩
 have fresh:∀r,D2 r->D r\/(u.heap.size<=r/\σ2 r=w.heap.size+(r-u.heap.size)):=λr hr=>by
  rcases h2.fresh r hr with h3|⟨h3,h4⟩
  ·rcases h1.fresh r h3 with h5|⟨h5,h6⟩
   ·exact .inl h5
   ·exact .inr ⟨h5,(Jl r h3).2.trans h6⟩
  ·exact .inr ⟨by omega,by omega⟩
 refine⟨h2.sit,up,fresh,λi hi=> ?_,?_,λe he=> ?_⟩
 ·by_cases hlt:w.heap.size+i<w1.heap.size
  ·obtain⟨h3,h4⟩:=h1.made i hlt
   exact⟨(Jl _ h3).1,(Jl _ h3).2.trans h4⟩
  ·obtain⟨j,hj⟩:∃j,w.heap.size+i=w1.heap.size+j:=⟨w.heap.size+i-w1.heap.size,by omega⟩
   obtain⟨h3,h4⟩:=h2.made j (by omega)
   have e:u1.heap.size+j=u.heap.size+i:=by omega
   rw[e]at h3 h4
   exact⟨h3,by omega⟩
 ·have d1:=h1.turned.drawn
  have d2:=h2.turned.drawn
  refine⟨h1.turned.lone.trans h2.turned.lone,h2.turned.tape.trans h1.turned.tape,h2.turned.os.trans h1.turned.os,h2.turned.output.trans h1.turned.output,by omega,by omega,λb hb hr=> ?_⟩
  rw[h2.turned.kept b (by omega) (λr hd hlt e=> ?_),h1.turned.kept b hb (λr hd hlt e=> ?_)]
  ·exact hr r (Jl r hd).1 hlt ((Jl r hd).2.trans e)
  ·by_cases hlt2:r<u.heap.size
   ·exact hr r hd hlt2 e
   ·rcases fresh r hd with h5|⟨_,h6⟩
    ·exact hlt2 (h.bound r h5)
    ·omega
 ·rcases Array.mem_append.1 he with h3|h3
  ·exact uf.up Jl (h1.evs e h3)
  ·exact h2.evs e h3
theorem eU.after{P' P:Program}{L L1:World->GStep}{s:GStep}{es1 e1' e1:Array Event}(h:Sit σ D T W0 u w)(h1:Moved T W0 σ D u w σ1 D1 u1 w1 es1)(hs:eU T W0 Sp P' P tl tail σ1 D1 u1 w1 L1 s)(hL:∀τ,Agree τ u.tape u.drawn u1.drawn->L (tp u τ)=GStep.after e1' (L1 (tp u1 τ)))(he:∀e∈e1,e∈es1):
  eU T W0 Sp P' P tl tail σ D u w L (GStep.after e1 s):=by
 have hd1:=h1.turned.lone.drawn
 have htp:u1.tape=u.tape:=h1.turned.lone.tape
 have sub:∀{τ:Nat->Question->Nat}{d:Nat},u1.drawn<=d->Agree τ u.tape u.drawn d->Agree τ u.tape u.drawn u1.drawn/\Agree τ u1.tape u1.drawn d:=λhle hτ=>⟨λj a b=>hτ j a (by omega),λj a b=>by rw[htp];exact hτ j (by omega) b⟩
 have hmem:∀{es:Array Event},∀e∈e1++es,e∈es1++es:=λe h=>Array.mem_append.2 ((Array.mem_append.1 h).imp (he e) id)
 cases hs with
 | @go jQ BF iq cs1 u2 w2 es' es σ2 D2 hL1 hf hc hb hm=>
  exact .go (λτ hτ=>by
   obtain⟨a,b⟩:=sub hm.turned.lone.drawn hτ
   rw[hL τ a,hL1 τ b]
   rfl) hf hc hb ((h1.trans h hm).sub hmem)
 | @out jQ BF iq cs1 u2 w2 es' es es2 σ2 D2 hL1 hf hc hb hm hq he2=>
  exact .out (λτ hτ=>by
   obtain⟨a,b⟩:=sub hm.turned.lone.drawn hτ
   rw[hL τ a,hL1 τ b]
   rfl) hf hc hb (h1.trans h hm) hq (λe h=>(Array.mem_append.1 h).elim (λk=>.inl (Array.mem_append.2 (.inl (he e k)))) λk=>(he2 e k).imp (λz=>Array.mem_append.2 (.inr z)) id)
 | @special f hsp hk a a' kind hkd jQ BF iq cs1 u2 w2 es' es σ2 D2 hL1 ha hf hc hb hm hd hn hnd hsz=>
  exact .special hsp hk hkd (λτ hτ=>by
   obtain⟨a,b⟩:=sub hm.turned.lone.drawn hτ
   rw[hL τ a,hL1 τ b]
   rfl) ha hf hc hb ((h1.trans h hm).sub hmem) hd hn hnd hsz
 |bad hbad=>
  have e:=hL u.tape (λ_ _ _=>rfl)
  have e2:tp u1 u.tape=u1:=by rw[<-htp];rfl
  rw[e2,hbad]at e
  exact .bad e
section
variable {Q : Program} {main : Bool} {fx : Frame} {cx : List Frame} {v0 v1 : World} {es : Array Event}
theorem Jm{f:Operand}{ps:Array Tmp}{a b:Code}{k:List Item}(ht:fx.todo=.code (.rangeFunc f ps a b)::k){l:Nat}{m:List Deferred}(hr:(Instr.enterLoop fx.fn fx.tmps ps a b fx.roundOf).runT Q v0 #[]=(.ok (l,m) v1,es)):
  stepG.exec Q main true fx cx none v0=GStep.after (seen Q fx.fn es) (stepG.apply Q true {fx with todo:=.inRangeFunc l::k,defers:=m++fx.defers} cx none (do let d<-Deferred.ofValue (fx.eval f) #[.func (.yield l) #[] #[]];invoke d.target d.args) v1):=by
 obtain⟨fn,tmps,todo,defers,mode,kind,round⟩:=fx
 dsimp only at ht hr
 subst ht
 have e:∀(t1 t2:List Item)(d1 d2:List Deferred)(v:Value),resolve (Frame.eval ⟨fn,tmps,t1,d1,mode,kind,round⟩) {callee:=.value f,args:= #[.const v],argTypes:= #[]} 0=Deferred.ofValue (Frame.eval ⟨fn,tmps,t2,d2,mode,kind,round⟩ f) #[v]:=λt1 t2 d1 d2 v=>by
  unfold resolve
  cases f<;>simp[Frame.eval]
 unfold stepG.exec
 simp only[hr]
 rw[e _ (.code (.rangeFunc f ps a b)::k) _ defers]
theorem Gi{f:Operand}{ps:Array Tmp}{a b:Code}{k:List Item}(ht:fx.todo=.code (.rangeFunc f ps a b)::k){h:Halt}(hr:(Instr.enterLoop fx.fn fx.tmps ps a b fx.roundOf).runT Q v0 #[]=(.halt h v1,es)):∃o es',stepG.exec Q main true fx cx none v0=.ended o v1 es':=by
 obtain⟨fn,tmps,todo,defers,mode,kind,round⟩:=fx
 dsimp only at ht hr
 subst ht
 unfold stepG.exec
 simp only[hr]
 exact⟨_,_,rfl⟩
theorem Vp{l:Nat}{k:List Item}(ht:fx.todo=.endRangeFunc l::k){j:Option Code}(hr:(Instr.endLoop l).runT Q v0 #[]=(.ok j v1,es)):
  stepG.exec Q main true fx cx none v0=.go (G {fx with todo:=(j.map Item.code).toList++k} cx) v1 (seen Q fx.fn es++ #[]):=by
 obtain⟨fn,tmps,todo,defers,mode,kind,round⟩:=fx
 dsimp only at ht hr
 subst ht
 unfold stepG.exec
 simp only[hr]
 rfl
theorem wG{l:Nat}{k:List Item}(ht:fx.todo=.endRangeFunc l::k){v:Value}(hr:(Instr.endLoop l).runT Q v0 #[]=(.halt (.panic v) v1,es)):
  stepG.exec Q main true fx cx none v0=.go (G (fx.raise [{v,recovered:=false}]) cx) v1 (seen Q fx.fn es++ #[]):=by
 obtain⟨fn,tmps,todo,defers,mode,kind,round⟩:=fx
 dsimp only at ht hr
 subst ht
 unfold stepG.exec
 simp only[hr]
 rfl
theorem MW{l:Nat}{k:List Item}(ht:fx.todo=.endRangeFunc l::k){h:Halt}(hb:cZ h)(hr:(Instr.endLoop l).runT Q v0 #[]=(.halt h v1,es)):∃o es',stepG.exec Q main true fx cx none v0=.ended o v1 es':=by
 obtain⟨fn,tmps,todo,defers,mode,kind,round⟩:=fx
 dsimp only at ht hr
 subst ht
 unfold stepG.exec
 simp only[hr]
 cases h<;>first|exact⟨_,_,rfl⟩|exact hb.elim
end
theorem MX{v v':Value}(hv:VR σ D v v'){a a':Array Value}(ha:dI σ D a a'):ay σ D (⟨T,F'⟩:Program) (⟨T,F⟩:Program) (λd d'=>IZ σ D d d'/\Y4 d.target=false) (Deferred.ofValue v a) (Deferred.ofValue v' a'):=by
 unfold Deferred.ofValue
 cases hv with
 |func fn h1 h2 h3 h4 h0=>exact ak ⟨.mk (.func fn ⟨h3,h4⟩) (dI.append ⟨h1,h2⟩ ha) (λf c e hn=>by cases e;rw[h0]at hn;cases hn),rfl⟩
 |weird m f c=>exact ak ⟨.weird _ _ m c _,rfl⟩
 |yield h=>exact ak ⟨.mk (.yield h) (dI.append ⟨rfl,λi x y hx=>by simp at hx⟩ ha) (λf c e hn=>by cases e),rfl⟩
 |jh=>exact ak ⟨.mk .nil ha (λ_ _ e=>by cases e),rfl⟩
 |_=>exact aj
variable (hz : ZP T) (hB : vZ T Sp F' F) (h : Sit σ D T W0 u w) (hy : Sync u w) {fr' fr : Frame} {cs' cs : List Frame} (hf : jf σ D T Sp F' F fr' fr) (hc : LR (jf σ D T Sp F' F) cs' cs)
include hz hB h hy hf hc in
theorem Rt(hq:Quiet tl/\Quiet tail)(fC:xP (fr'::cs'))(hm:fr'.mode=.run)(hm2:fr.mode=.run)(main:Bool){f:Operand}(hof:dZ f=true){ps:Array Tmp}{a a' b b':Code}(ha:dQ T False true a a')(hb:dQ T False true b b'){k k2:List Item}(hk:LR (jG σ D T (pn Sp) fr'.roundOf.isSome) k k2)(ht':fr'.todo=.code (.rangeFunc f ps a b)::k)(ht:fr.todo=.code (.rangeFunc f ps a' b')::k2):
  eU T W0 Sp ⟨T,F'⟩ ⟨T,F⟩ tl tail σ D u w (λu=>stepG.exec ⟨T,F'⟩ true true fr' (cs'++tl) none u) (stepG.exec ⟨T,F⟩ main true fr (cs++tail) none w):=by
 obtain⟨f0',f0,hk1,hk2,_⟩:=hf.known
 have hfn:fr'.fn<AB:=by rw[hf.fn,<-hB.sz];exact(Array.getElem?_eq_some_iff.1 hk2).1
 have hs:∀σ1 D1,Up σ D σ1 D1->zV σ1 D1->Glob σ1 D1 T->ay σ1 D1 (⟨T,F'⟩:Program) (⟨T,F⟩:Program) (λ(x y:Nat×List Deferred)=>(D1 x.1/\y.1=σ1 x.1)/\LR (xY σ1 D1) x.2 y.2) (Instr.enterLoop fr'.fn fr'.tmps ps a b fr'.roundOf) (Instr.enterLoop fr.fn fr.tmps ps a' b' fr.roundOf):=λσ1 D1 hu _ _=>by
  rw[<-hf.fn]
  exact Gf hz.2.2 hfn (dI.up hu hf.tmps) ps ha hb (hf.round.up hu)
 have hrun:=pJ (P':=⟨T,F'⟩) (P:=⟨T,F⟩) (R:=λσ1 D1(x y:Nat×List Deferred)=>(D1 x.1/\y.1=σ1 x.1)/\LR (xY σ1 D1) x.2 y.2) rfl rfl h hy hs
 rcases hx:(Instr.enterLoop fr'.fn fr'.tmps ps a b fr'.roundOf).runT (⟨T,F'⟩:Program) u #[]with⟨r,es0⟩
 rcases hx':(Instr.enterLoop fr.fn fr.tmps ps a' b' fr.roundOf).runT (⟨T,F⟩:Program) w #[]with⟨r',es⟩
 have htp:=jT (P':=⟨T,F'⟩) (P:=⟨T,F⟩) (R:=λσ1 D1(x y:Nat×List Deferred)=>(D1 x.1/\y.1=σ1 x.1)/\LR (xY σ1 D1) x.2 y.2) rfl rfl h hy hs hx
 rw[hx,hx']at hrun
 rcases r with⟨⟨l,m⟩,u1⟩|⟨h0,u1⟩
 ·rcases r' with⟨⟨l',m'⟩,w1⟩|⟨h1,w1⟩
  ·obtain⟨σ1,D1,hmv,⟨hl,rfl⟩,hmm⟩:=hrun
   have hf1:=hf.up hmv.up
   have hc1:=hc.mono λ_ _ x=>jf.up hmv.up x
   rw[Jm ht hx']
   have hfa:jf σ1 D1 T Sp F' F {fr' with todo:=.inRangeFunc l::k,defers:=m++fr'.defers} {fr with todo:=.inRangeFunc (σ1 l)::k2,defers:=m'++fr.defers}:=
    ⟨hf1.fn,hf1.tmps,.cons (.inRangeFunc hl) (hk.mono λ_ _ x=>x.up hmv.up),hmm.append hf1.defers,hf1.mode,hf1.kind,hf1.kinds,hf1.round,trivial,hf1.known⟩
   have hy1:Sync u1 w1:=λi=>by
    have d1:=hmv.turned.drawn
    have d2:=hmv.turned.lone.drawn
    rw[hmv.turned.lone.tape,hmv.turned.tape]
    have:=hy (u1.drawn-u.drawn+i)
    rw[show u.drawn+(u1.drawn-u.drawn+i)=u1.drawn+i by omega,show w.drawn+(u1.drawn-u.drawn+i)=w1.drawn+i by omega]at this
    exact this
   refine eU.after h hmv (L1:=λu=>stepG.apply ⟨T,F'⟩ true {fr' with todo:=.inRangeFunc l::k,defers:=m++fr'.defers} (cs'++tl) none (do let d<-Deferred.ofValue (fr'.eval f) #[.func (.yield l) #[] #[]];invoke d.target d.args) u) ?_ (λτ hτ=>Jm (cx:=cs'++tl) ht' (htp τ hτ)) (λe he=>mem_seen he)
   refine sU hz.2.2 hq (P':=⟨T,F'⟩) (P:=⟨T,F⟩) rfl rfl hB hmv.sit hy1 hfa hc1 (fC.top rfl) hm2 λσ2 D2 hu _ _=> ?_
   refine(MX (VR.up hu ((wE hf1.tmps).1 f hof)) (a:= #[.func (.yield l) #[] #[]]) (a':= #[.func (.yield (σ1 l)) #[] #[]]) ⟨rfl,λi x y hx hy=> ?_⟩).bind λd d'⟨hd,hrec⟩=> ?_
   ·rcases i with _|i
    ·simp at hx hy
     subst hx hy
     rw[<-(hu l hl).2]
     exact .yield (hu l hl).1
    ·simp at hx
   ·cases hd with
    |mk ht ha hs=>exact Ew hz hB.fs ht (λ_=>hrec) ha hs
    |weird v a m c b=>exact pI hz v a
  ·exact hrun.elim
 ·obtain⟨o,es',e⟩:=Gi (main:=true) (cx:=cs'++tl) ht' hx
  exact fJ e
include h hy hf hc in
theorem Vq(fC:xP (fr'::cs'))(main:Bool){l:Nat}(hl:D l){k k2:List Item}(hk:LR (jG σ D T (pn Sp) fr'.roundOf.isSome) k k2)(ht':fr'.todo=.endRangeFunc l::k)(ht:fr.todo=.endRangeFunc (σ l)::k2):
  eU T W0 Sp ⟨T,F'⟩ ⟨T,F⟩ tl tail σ D u w (λu=>stepG.exec ⟨T,F'⟩ true true fr' (cs'++tl) none u) (stepG.exec ⟨T,F⟩ main true fr (cs++tail) none w):=by
 have hs:∀σ1 D1,Up σ D σ1 D1->zV σ1 D1->Glob σ1 D1 T->ay σ1 D1 (⟨T,F'⟩:Program) (⟨T,F⟩:Program) AP (Instr.endLoop l) (Instr.endLoop (σ l)):=λσ1 D1 hu _ _=>by
  rw[<-(hu l hl).2]
  exact MO (hu l hl).1
 have hrun:=pJ (P':=⟨T,F'⟩) (P:=⟨T,F⟩) (R:=λ_ _=>AP) rfl rfl h hy hs
 rcases hx:(Instr.endLoop l).runT (⟨T,F'⟩:Program) u #[]with⟨r,es0⟩
 rcases hx':(Instr.endLoop (σ l)).runT (⟨T,F⟩:Program) w #[]with⟨r',es⟩
 have htp:=jT (P':=⟨T,F'⟩) (P:=⟨T,F⟩) (R:=λ_ _=>AP) rfl rfl h hy hs hx
 rw[hx,hx']at hrun
 have hsub:∀{es:Array Event}{fn:FuncId},∀e∈seen (⟨T,F⟩:Program) fn es++ #[],e∈es:=λe he=>mem_seen (by simpa using he)
 rcases r with⟨j,u1⟩|⟨h0,u1⟩
 ·rcases r' with⟨j',w1⟩|⟨h1,w1⟩
  ·obtain⟨σ1,D1,hm,hj⟩:=hrun
   have hf1:=hf.up hm.up
   rw[Vp ht hx']
   refine .go (λτ hτ=>Vp ht' (htp τ hτ)) ⟨hf1.fn,hf1.tmps,?_,hf1.defers,hf1.mode,hf1.kind,hf1.kinds,hf1.round,trivial,hf1.known⟩ (hc.mono λ_ _ x=>jf.up hm.up x) (fC.top rfl) (hm.sub hsub)
   have hk1:LR (jG σ1 D1 T (pn Sp) fr'.roundOf.isSome) k k2:=hk.mono λ_ _ x=>x.up hm.up
   cases hj with
   |none=>exact hk1
   |some hcc=>exact .cons (.code (hcc T _ _)) hk1
  ·exact hrun.elim
 ·by_cases hp:∃v,h0=.panic v
  ·obtain⟨v,rfl⟩:=hp
   rcases r' with⟨n',w1⟩|⟨h1,w1⟩
   ·exact hrun.elim
   ·cases h1 with
    |panic v'=>
     obtain⟨σ1,D1,hm,hv⟩:=hrun
     rw[wG ht hx']
     exact .go (λτ hτ=>wG ht' (htp τ hτ)) (oC (hf.up hm.up) (.cons (.mk false hv) .nil)) (hc.mono λ_ _ x=>jf.up hm.up x) (fC.top (kU _ _)) (hm.sub hsub)
    |_=>exact hrun.elim
  ·have hb:cZ h0:=by
    cases h0<;>first|exact hrun|exact absurd ⟨_,rfl⟩ hp
   obtain⟨o,es',e⟩:=MW (main:=true) (cx:=cs'++tl) ht' hb hx
   exact fJ e
end
end Go.Proofs.YtlncengggmgdgaaGreat.par
