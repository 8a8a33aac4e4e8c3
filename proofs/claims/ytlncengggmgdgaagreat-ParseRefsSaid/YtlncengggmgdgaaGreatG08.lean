/- What a goroutine's step does to a lone world its fellow's does to the crowd's: a running frame. No conditions. -/
import Derived.Test.YtlncengggmgdgaaGreatG07
set_option linter.unusedVariables false
set_option linter.unusedSimpArgs false
namespace Go.Proofs.YtlncengggmgdgaaGreat.par
open Go Go.Conc
section
variable {T : Tables} {W0 : World} {Sp : FuncId → Prop} {F' F : Array Func} {tl tail : List Frame} {σ : Nat → Nat} {D : Nat → Prop} {u w : World}
theorem oD{P:Program}{main:Bool}{fr:Frame}{cs:List Frame}(hm:fr.mode=.run):stepG P main (G fr cs) w=stepG.exec P main true fr cs none w:=by
 simp[stepG,G,hm]
theorem todo_rel{fr' fr:Frame}(h:jf σ D T Sp F' F fr' fr){l m:List Item}(hl:LR (jG σ D T (pn Sp) fr'.roundOf.isSome) l m):jf σ D T Sp F' F {fr' with todo:=l} {fr with todo:=m}:=
 ⟨h.fn,h.tmps,hl,h.defers,h.mode,h.kind,h.kinds,h.round,h.flat,h.known⟩
theorem Zd{fr' fr:Frame}(h:jf σ D T Sp F' F fr' fr):jf σ D T Sp F' F {fr' with mode:=.returning} {fr with mode:=.returning}:=
 ⟨h.fn,h.tmps,h.todo,h.defers,.returning,h.kind,h.kinds,h.round,h.flat,h.known⟩
theorem Moved.drew(h:Sit σ D T W0 u w):Moved T W0 σ D u w σ D {u with drawn:=u.drawn+1} {w with drawn:=w.drawn+1} #[]:=
 ⟨⟨⟨h.wr.obj,h.wr.YR,h.wr.low,h.wr.orig,h.wr.os⟩,h.inj,h.glob,h.bound,h.gu,h.gw⟩,λr hr=>⟨hr,rfl⟩,λr hr=>.inl hr,λi hi=>(by dsimp only at hi;omega),yU u w,λe he=>by simp at he⟩
variable (hz : ZP T) (hB : vZ T Sp F' F) (h : Sit σ D T W0 u w) (hy : Sync u w) {fr' fr : Frame} {cs' cs : List Frame} (hf : jf σ D T Sp F' F fr' fr) (hc : LR (jf σ D T Sp F' F) cs' cs)
include hz hB h hy hf hc in
theorem Vr(hq:Quiet tl/\Quiet tail)(fC:xP (fr'::cs'))(hm:fr'.mode=.run)(main:Bool):eU T W0 Sp ⟨T,F'⟩ ⟨T,F⟩ tl tail σ D u w (λu=>stepG.exec ⟨T,F'⟩ true true fr' (cs'++tl) none u) (stepG.exec ⟨T,F⟩ main true fr (cs++tail) none w):=by
 have hm2:fr.mode=.run:=by
  have:=hf.mode
  rw[hm]at this
  cases hx:fr.mode<;>rw[hx]at this<;>cases this
 have ht:=hf.todo
 have hrr:=hf.round
 obtain⟨fn',gV,l,defers',Pj,kind',round'⟩:=fr'
 obtain⟨fn,tmps,m,defers,mode,kind,round⟩:=fr
 dsimp only at ht hrr hm hm2
 subst hm hm2
 have same:∀{l1 m1:List Item}{L:World->GStep},(∀v,L v=.go (G ⟨fn',gV,l1,defers',.run,kind',round'⟩ (cs'++tl)) v #[])->LR (jG σ D T (pn Sp) round'.isSome) l1 m1->eU T W0 Sp ⟨T,F'⟩ ⟨T,F⟩ tl tail σ D u w L (.go (G ⟨fn,tmps,m1,defers,.run,kind,round⟩ (cs++tail)) w #[]):=λhL hl=>.go (λτ _=>hL _) (todo_rel hf hl) hc (fC.top rfl) (Moved.refl h)
 have leave:∀{j:Option Code},Leaves ⟨fn',gV,l,defers',.run,kind',round'⟩ j->Leaves ⟨fn,tmps,m,defers,.run,kind,round⟩ j->AP j j->
   (round'=none->∀v,stepG.exec ⟨T,F'⟩ true true ⟨fn',gV,l,defers',.run,kind',round'⟩ (cs'++tl) none v=.go (G ⟨fn',gV,l,defers',.returning,kind',round'⟩ (cs'++tl)) v #[])->
   (round=none->stepG.exec ⟨T,F⟩ main true ⟨fn,tmps,m,defers,.run,kind,round⟩ (cs++tail) none w=.go (G ⟨fn,tmps,m,defers,.returning,kind,round⟩ (cs++tail)) w #[])->
   eU T W0 Sp ⟨T,F'⟩ ⟨T,F⟩ tl tail σ D u w (λu=>stepG.exec ⟨T,F'⟩ true true ⟨fn',gV,l,defers',.run,kind',round'⟩ (cs'++tl) none u) (stepG.exec ⟨T,F⟩ main true ⟨fn,tmps,m,defers,.run,kind,round⟩ (cs++tail) none w):=λhL' hL hj h1 h2=>by
  cases hrr with
  |none=>
   rw[h2 rfl]
   exact .go (λτ _=>h1 rfl _) (Zd hf) hc (fC.top rfl) (Moved.refl h)
  |some hl=>exact EI h hy hf hc fC main rfl hl rfl hL' hL hj
 cases ht with
 |nil=>exact leave (.inl ⟨rfl,rfl⟩) (.inl ⟨rfl,rfl⟩) .none (λe v=>by subst e;rfl) (λe=>by subst e;rfl)
 | @cons a b l m hab hlm=>
  cases hab with
  |inBlock id=>exact same (λ_=>rfl) hlm
  |inRangeFunc hl=>exact fJ rfl
  |endRangeFunc hl=>exact Vq h hy hf hc fC main hl hlm rfl rfl
  |beginRound=>
   refine sU hz.2.2 hq (P':=⟨T,F'⟩) (P:=⟨T,F⟩) rfl rfl hB h hy hf hc fC rfl (s:=do round'.elim (stuck "beginRound: no round") Instr.beginRound;Pure.pure .skip) (s':=do round.elim (stuck "beginRound: no round") Instr.beginRound;Pure.pure .skip) λσ1 D1 hu _ _=> ?_
   cases hrr with
   |none=>exact aj
   |some hl=>
    rw[<-(hu _ hl).2]
    exact(D9 (hu _ hl).1).bind λ_ _ _=>ak .skip
  |inScope hcd=>exact same (λ_=>rfl) hlm
  |inLoop hcd=>exact same (λ_=>rfl) (.cons (.code hcd) (.cons (.inLoop hcd) hlm))
  |code hcd=>
   cases hcd with
   |refuse why c=>exact fJ rfl
   |skip=>exact same (λ_=>rfl) hlm
   |ret=>exact leave (.inr (.inl ⟨_,rfl,rfl⟩)) (.inr (.inl ⟨_,rfl,rfl⟩)) (.some λ_ _ _=>.ret) (λe v=>by subst e;rfl) (λe=>by subst e;rfl)
   |rangeFunc hof ps hA hB2=>exact Rt hz hB h hy hf hc hq fC rfl rfl main hof hA hB2 hlm rfl rfl
   |label id=>exact same (λ_=>rfl) hlm
   |exit id=>
    rcases MP id hlm with⟨e1,e2⟩|⟨r,r',e1,e2,hrr⟩
    ·cases hrr with
     |none=>exact fJ (o:=_) (u1:=u) (es:= #[]) (by unfold stepG.exec;simp only[e1];rfl)
     |some hl=>exact EI h hy hf hc fC main rfl hl rfl (.inr (.inr ⟨id,_,rfl,e1,rfl⟩)) (.inr (.inr ⟨id,_,rfl,e2,rfl⟩)) (.some λ_ _ _=>.exit id)
    ·have hw:stepG.exec ⟨T,F⟩ main true ⟨fn,tmps,.code (.exit id)::m,defers,.run,kind,round⟩ (cs++tail) none w=.go (G ⟨fn,tmps,r',defers,.run,kind,round⟩ (cs++tail)) w #[]:=by unfold stepG.exec;simp only[e2];rfl
     rw[hw]
     exact same (λv=>by unfold stepG.exec;simp only[e1];rfl) hrr
   | @region _ _ id ops draw hops=>
    cases draw with
    |false=>exact same (λ_=>rfl) (.cons (.inRegion hops _) hlm)
    |true=>
     have hfn:fn'=fn:=hf.fn
     subst hfn
     have e0:u.tape u.drawn=w.tape w.drawn:=hy 0
     have hw:stepG.exec ⟨T,F⟩ main true ⟨fn',tmps,.code (.region id ops true)::m,defers,.run,kind,round⟩ (cs++tail) none w=.go (G ⟨fn',tmps,.inRegion ops (Region.schedule ((⟨T,F⟩:Program).follows .mixedOrders) ops (w.tape w.drawn (.order fn' id)))::m,defers,.run,kind,round⟩ (cs++tail)) {w with drawn:=w.drawn+1} #[]:=by
      unfold stepG.exec
      simp only[Bool.not_true,Bool.false_eq_true,if_false,choose,Sem.run,Question.forced,Question.cut]
      rfl
     rw[hw]
     refine .go (u1:={u with drawn:=u.drawn+1}) (jQ:=⟨fn',gV,.inRegion ops (Region.schedule ((⟨T,F⟩:Program).follows .mixedOrders) ops (w.tape w.drawn (.order fn' id)))::l,defers',.run,kind',round'⟩) (es':= #[]) (λτ hτ=> ?_) (todo_rel hf (.cons (.inRegion hops _) hlm)) hc (fC.top rfl) (Moved.drew h)
     have e3:τ u.drawn=w.tape w.drawn:=(hτ u.drawn (Nat.le_refl _) (Nat.lt_succ_self _)).trans e0
     unfold stepG.exec
     simp only[Bool.not_true,Bool.false_eq_true,if_false,choose,Sem.run,Question.forced,Question.cut,tp,e3]
     rfl
   |seq ha hb=>exact same (λ_=>rfl) (.cons (.code ha) (.cons (.code hb) hlm))
   | @cond _ _ c hcc x y x' y' ha hb=>
    have hv:=(wE hf.tmps).1 c hcc
    have ev:∀v',(Frame.eval ⟨fn,tmps,.code (.cond c x' y')::m,defers,.run,kind,round⟩ c)=.bool v'->stepG.exec ⟨T,F⟩ main true ⟨fn,tmps,.code (.cond c x' y')::m,defers,.run,kind,round⟩ (cs++tail) none w=.go (G ⟨fn,tmps,.code (if v' then x' else y')::m,defers,.run,kind,round⟩ (cs++tail)) w #[]:=by
     intro v' e
     unfold stepG.exec
     simp only[e]
     rfl
    have el:∀v' w,(Frame.eval ⟨fn',gV,.code (.cond c x y)::l,defers',.run,kind',round'⟩ c)=.bool v'->stepG.exec ⟨T,F'⟩ true true ⟨fn',gV,.code (.cond c x y)::l,defers',.run,kind',round'⟩ (cs'++tl) none w=.go (G ⟨fn',gV,.code (if v' then x else y)::l,defers',.run,kind',round'⟩ (cs'++tl)) w #[]:=by
     intro v' w e
     unfold stepG.exec
     simp only[e]
     rfl
    have eb:(∀b,(Frame.eval ⟨fn',gV,.code (.cond c x y)::l,defers',.run,kind',round'⟩ c)≠ .bool b)->∃o es,stepG.exec ⟨T,F'⟩ true true ⟨fn',gV,.code (.cond c x y)::l,defers',.run,kind',round'⟩ (cs'++tl) none u=.ended o u es:=by
     intro e
     unfold stepG.exec
     dsimp only
     split
     ·rename_i b hb;exact absurd hb (e b)
     ·exact⟨_,_,rfl⟩
    revert hv ev el eb
    generalize Frame.eval ⟨fn',gV,.code (.cond c x y)::l,defers',.run,kind',round'⟩ c=v
    generalize Frame.eval ⟨fn,tmps,.code (.cond c x' y')::m,defers,.run,kind,round⟩ c=v'
    intro hv ev el eb
    by_cases abN:∃b,v=.bool b
    ·obtain⟨b,rfl⟩:=abN
     have e2:v'=.bool b:=(Jg hv b).1 rfl
     rw[ev b e2]
     exact same (λz=>el b z rfl) (by cases b<;>first|exact .cons (.code ha) hlm|exact .cons (.code hb) hlm)
    ·obtain⟨o,es,e⟩:=eb (λb e=>abN ⟨b,e⟩)
     exact fJ e
   |block id ha=>exact same (λ_=>rfl) (.cons (.code ha) (.cons (.inBlock id) hlm))
   |loop ha=>exact same (λ_=>rfl) (.cons (.code ha) (.cons (.inLoop ha) hlm))
   |scope ha=>exact same (λ_=>rfl) (.cons (.code ha) (.cons (.inScope ha) hlm))
  | @inRegion ops hops todo=>
   cases todo with
   |nil=>exact same (λ_=>rfl) hlm
   |cons i rest=>
    have ey:yielded ops gV=yielded ops tmps:=funext (Jh hf.tmps ops)
    by_cases hw:((ops[i]?).map (Region.wanted · (yielded ops tmps))).getD false=true
    ·rcases ho:ops[i]? with _|o
     ·rw[ho]at hw;simp at hw
     have hok0:=(hops o (Array.mem_of_getElem? ho)).1
     have hrd:=(hops o (Array.mem_of_getElem? ho)).2
     have nd1:∀r c,round'=some r->o.op≠ .defer c:=λr c e1 e2=>by
      have:=hrd (by rw[e1];rfl)
      rw[e2]at this
      cases this
     have nd2:∀r c,round=some r->o.op≠ .defer c:=λr c e1 e2=>by
      cases hrr with
      |none=>cases e1
      |some hl=>exact nd1 _ c rfl e2
     have hw':((some o).map (Region.wanted · (yielded ops tmps))).getD false=true:=by rw[<-ho];exact hw
     have e1:∀u,stepG.exec ⟨T,F'⟩ true true ⟨fn',gV,.inRegion ops (i::rest)::l,defers',.run,kind',round'⟩ (cs'++tl) none u=stepG.apply ⟨T,F'⟩ true ⟨fn',gV,.inRegion ops (i::rest)::l,defers',.run,kind',round'⟩ (cs'++tl) none (execOp (Frame.eval ⟨fn',gV,.inRegion ops (i::rest)::l,defers',.run,kind',round'⟩) o) u:=by
      intro u
      unfold stepG.exec stepG.oper
      simp only[ey,Frame.oper?,ho]
      rw[if_pos hw']
     have e2:stepG.exec ⟨T,F⟩ main true ⟨fn,tmps,.inRegion ops (i::rest)::m,defers,.run,kind,round⟩ (cs++tail) none w=stepG.apply ⟨T,F⟩ true ⟨fn,tmps,.inRegion ops (i::rest)::m,defers,.run,kind,round⟩ (cs++tail) none (execOp (Frame.eval ⟨fn,tmps,.inRegion ops (i::rest)::m,defers,.run,kind,round⟩) o) w:=by
      unfold stepG.exec stepG.oper
      simp only[Frame.oper?,ho]
      rw[if_pos hw']
     rw[show(λu=>stepG.exec ⟨T,F'⟩ true true ⟨fn',gV,.inRegion ops (i::rest)::l,defers',.run,kind',round'⟩ (cs'++tl) none u)=_ from funext e1,e2]
     rcases hok0 with hok|⟨hq1,aiQ⟩
     rotate_left
     ·exact Rq hz.2.2 hq1 hB hq h hy hf hc fC rfl aiQ (wE hf.tmps).1
     exact sU hz.2.2 hq (P':=⟨T,F'⟩) (P:=⟨T,F⟩) rfl rfl hB h hy hf hc fC rfl (λσ1 D1 hu hi hg=>Rj hz hB.fs hi hg (wE (dI.up hu hf.tmps)) o hok hrd)
    ·have e1:∀u,stepG.exec ⟨T,F'⟩ true true ⟨fn',gV,.inRegion ops (i::rest)::l,defers',.run,kind',round'⟩ (cs'++tl) none u=.go (G (Frame.finish ⟨fn',gV,.inRegion ops (i::rest)::l,defers',.run,kind',round'⟩ undef) (cs'++tl)) u #[]:=by
      intro u
      unfold stepG.exec
      simp only[ey,hw,Bool.false_eq_true,if_false]
      rfl
     have e2:stepG.exec ⟨T,F⟩ main true ⟨fn,tmps,.inRegion ops (i::rest)::m,defers,.run,kind,round⟩ (cs++tail) none w=.go (G (Frame.finish ⟨fn,tmps,.inRegion ops (i::rest)::m,defers,.run,kind,round⟩ undef) (cs++tail)) w #[]:=by
      unfold stepG.exec
      simp only[hw,Bool.false_eq_true,if_false]
      rfl
     rw[e2]
     exact .go (λτ _=>e1 _) (gB hf pK) hc (fC.top (eP _ _)) (Moved.refl h)
end
end Go.Proofs.YtlncengggmgdgaaGreat.par
namespace Go.Proofs.YtlncengggmgdgaaGreat.par
open Go Go.Conc
section
variable {σ : Nat → Nat} {D : Nat → Prop} {T : Tables} {F' F : Array Func}
theorem Pn{ι:Type}{f f':ι->Sem Value}(h:∀x,ay σ D (⟨T,F'⟩:Program) (⟨T,F⟩:Program) (VR σ D) (f x) (f' x)):∀(xs:List ι),ay σ D (⟨T,F'⟩:Program) (⟨T,F⟩:Program) (λl m=>LR (VR σ D) l m) (xs.mapM f) (xs.mapM f')
 |[]=>ak .nil
 |x::xs=>by
  simp only[List.mapM_cons]
  refine(h x).bind (λa b hab=> ?_)
  exact(Pn h xs).bind (λl m hlm=>ak (.cons hab hlm))
theorem LR.vs{l m:List Value}(h:LR (VR σ D) l m):dI σ D l.toArray m.toArray:=by
 induction h with
 |nil=>exact dI.nil
 |cons hab _ ih=>
  refine⟨by simpa using ih.1,λi x y hx hy=> ?_⟩
  cases i with
  |zero=>simp at hx hy;subst hx hy;exact hab
  |succ i=>exact ih.2 i x y (by simpa using hx) (by simpa using hy)
theorem uK{fn' fn:Func}(hr:fn'.results=fn.results){c c':Array Value}(h:dI σ D c c'):ay σ D (⟨T,F'⟩:Program) (⟨T,F⟩:Program) (VR σ D) (results fn' c) (results fn c'):=by
 unfold results
 rw[hr]
 refine ay.bind (R:=dI σ D) ?_ (λa b hab=> ?_)
 ·rw[Array.mapM_eq_mapM_toList,Array.mapM_eq_mapM_toList]
  refine ay.bind (Pn (λx=> ?_) fn.results.toList) (λl m hlm=>ak (LR.vs hlm))
  cases x with
  |tmp t=>exact ak (wC h t)
  |cell a t=>exact(sH (wC h a)).bind (λp q hpq=>AZ t hpq)
 ·refine ak ?_
  by_cases h1:a.size=1
  ·have h2:b.size=1:=by rw[<-hab.1];exact h1
   rw[dif_pos h1,dif_pos h2]
   exact hab.2 0 _ _ (Array.getElem?_eq_getElem _) (Array.getElem?_eq_getElem _)
  ·have h2:¬b.size=1:=by rw[<-hab.1];exact h1
   rw[dif_neg h1,dif_neg h2]
   exact .tuple hab.1 hab.2
end
section
variable {T : Tables} {W0 : World} {Sp : FuncId → Prop} {F' F : Array Func} {tl tail : List Frame} {σ : Nat → Nat} {D : Nat → Prop} {u w : World}
theorem eX{P:Program}{main:Bool}{fr:Frame}{cs:List Frame}(hm:fr.mode≠ .run):stepG P main (G fr cs) w=unwind P main fr cs none w:=by
 obtain⟨fn,tmps,todo,defers,mode,kind,round⟩:=fr
 cases mode<;>first|exact absurd rfl hm|rfl
theorem Vs{fr' fr:Frame}(h:jf σ D T Sp F' F fr' fr){l m:List Deferred}(hl:LR (xY σ D) l m):jf σ D T Sp F' F {fr' with defers:=l} {fr with defers:=m}:=
 ⟨h.fn,h.tmps,h.todo,hl,h.mode,h.kind,h.kinds,h.round,h.flat,h.known⟩
variable (hz : ZP T) (hB : vZ T Sp F' F) (h : Sit σ D T W0 u w) (hy : Sync u w) {fr' fr : Frame} {cs' cs : List Frame} (hf : jf σ D T Sp F' F fr' fr) (hc : LR (jf σ D T Sp F' F) cs' cs)
section
variable {Q : Program} {fx : Frame} {cx : List Frame} {v0 v1 : World} {es : Array Event} {d : Deferred}
def Makes(fr:Frame)(d:Deferred):Prop:=¬(d.target=.nil/\∃c,fr.mode=.panicking c)
theorem Ze(h:¬Makes fx d):∃o,callDeferred Q fx cx none d v0=.ended o v0 #[]:=by
 obtain⟨t,a⟩:=d
 obtain⟨fn,tmps,todo,defers,mode,kind,round⟩:=fx
 unfold Makes at h
 have h':t=.nil/\∃c,mode=.panicking c:=Classical.byContradiction h
 obtain⟨rfl,c,rfl⟩:=h'
 exact⟨_,rfl⟩
theorem Jo(hm:Makes fx d){v:Value}(hr:(invoke d.target d.args).runT Q v0 #[]=(.ok (.value v) v1,es)):callDeferred Q fx cx none d v0=.go (G fx cx) v1 (seen Q fx.fn es++ #[]):=by
 obtain⟨t,a0⟩:=d
 obtain⟨fn,tmps,todo,defers,mode,kind,round⟩:=fx
 unfold callDeferred
 dsimp only at hr⊢
 cases t<;>cases mode<;>first|exact absurd ⟨rfl,_,rfl⟩ hm|(simp only[hr];rfl)
theorem Po(hm:Makes fx d)(hr:(invoke d.target d.args).runT Q v0 #[]=(.ok .skip v1,es)):callDeferred Q fx cx none d v0=.go (G fx cx) v1 (seen Q fx.fn es++ #[]):=by
 obtain⟨t,a0⟩:=d
 obtain⟨fn,tmps,todo,defers,mode,kind,round⟩:=fx
 unfold callDeferred
 dsimp only at hr⊢
 cases t<;>cases mode<;>first|exact absurd ⟨rfl,_,rfl⟩ hm|(simp only[hr];rfl)
theorem Jp(hm:Makes fx d){e:Deferred}(hr:(invoke d.target d.args).runT Q v0 #[]=(.ok (.defer e) v1,es)):callDeferred Q fx cx none d v0=.go (G fx cx) v1 (seen Q fx.fn es++ #[]):=by
 obtain⟨t,a0⟩:=d
 obtain⟨fn,tmps,todo,defers,mode,kind,round⟩:=fx
 unfold callDeferred
 dsimp only at hr⊢
 cases t<;>cases mode<;>first|exact absurd ⟨rfl,_,rfl⟩ hm|(simp only[hr];rfl)
theorem wH(hm:Makes fx d){f:FuncId}{a:Array Value}(hr:(invoke d.target d.args).runT Q v0 #[]=(.ok (.enter f a) v1,es)):callDeferred Q fx cx none d v0=.go (G (Frame.enter Q f a .deferred) (fx::cx)) v1 (seen Q fx.fn es++ #[]):=by
 obtain⟨t,a0⟩:=d
 obtain⟨fn,tmps,todo,defers,mode,kind,round⟩:=fx
 unfold callDeferred
 dsimp only at hr⊢
 cases t<;>cases mode<;>first|exact absurd ⟨rfl,_,rfl⟩ hm|(simp only[hr];rfl)
theorem Jq(hm:Makes fx d){l:Nat}{f:FuncId}{tt:Array Value}{a b:Code}(hr:(invoke d.target d.args).runT Q v0 #[]=(.ok (.round l f tt a b) v1,es)):callDeferred Q fx cx none d v0=.go (G (Frame.round l f tt a b .deferred) (fx::cx)) v1 (seen Q fx.fn es++ #[]):=by
 obtain⟨t,a0⟩:=d
 obtain⟨fn,tmps,todo,defers,mode,kind,round⟩:=fx
 unfold callDeferred
 dsimp only at hr⊢
 cases t<;>cases mode<;>first|exact absurd ⟨rfl,_,rfl⟩ hm|(simp only[hr];rfl)
theorem Jr(hm:Makes fx d){v:Value}(hr:(invoke d.target d.args).runT Q v0 #[]=(.halt (.panic v) v1,es)):callDeferred Q fx cx none d v0=.go (G (fx.raise [{v,recovered:=false}]) cx) v1 (seen Q fx.fn es++ #[]):=by
 obtain⟨t,a0⟩:=d
 obtain⟨fn,tmps,todo,defers,mode,kind,round⟩:=fx
 unfold callDeferred
 dsimp only at hr⊢
 cases t<;>cases mode<;>first|exact absurd ⟨rfl,_,rfl⟩ hm|(simp only[hr];rfl)
theorem acF(hm:Makes fx d){h:Halt}(hb:cZ h)(hr:(invoke d.target d.args).runT Q v0 #[]=(.halt h v1,es)):∃o es',callDeferred Q fx cx none d v0=.ended o v1 es':=by
 obtain⟨t,a0⟩:=d
 obtain⟨fn,tmps,todo,defers,mode,kind,round⟩:=fx
 unfold callDeferred
 dsimp only at hr⊢
 cases h with
 |stuck s=>cases t<;>cases mode<;>first|exact absurd ⟨rfl,_,rfl⟩ hm|(simp only[hr];exact⟨_,_,rfl⟩)
 |unsupported uu=>cases uu<;>first|exact hb.elim|(cases t<;>cases mode<;>first|exact absurd ⟨rfl,_,rfl⟩ hm|(simp only[hr];exact⟨_,_,rfl⟩))
 |_=>exact hb.elim
end
include hz hB h hy hf hc in
theorem Ru(fC:xP (fr'::cs'))(hm:fr'.mode≠ .run){d' d:Deferred}(hd:xY σ D d' d):eU T W0 Sp ⟨T,F'⟩ ⟨T,F⟩ tl tail σ D u w (λu=>callDeferred ⟨T,F'⟩ fr' (cs'++tl) none d' u) (callDeferred ⟨T,F⟩ fr (cs++tail) none d w):=by
 have hmr:fr.mode≠ .run:=by
  have:=hf.mode
  intro e
  rw[e]at this
  cases hx:fr'.mode<;>rw[hx]at this<;>first|exact hm hx|cases this
 have hmk:Makes fr' d'->Makes fr d:=by
  intro h1 ⟨h2,c,h3⟩
  refine h1 ⟨?_,?_⟩
  ·cases hd.1 with
   |mk ht _=>cases ht<;>first|rfl|cases h2
   |weird=>cases h2
  ·have:=hf.mode
   rw[h3]at this
   revert this
   generalize fr'.mode=x
   intro this
   cases this
   exact⟨_,rfl⟩
 refine Classical.byCases (p:=Makes fr' d') (λhmk'=> ?_) (λhmk'=>by
  obtain⟨o,e⟩:=Ze (Q:=⟨T,F'⟩) (cx:=cs'++tl) (v0:=u) hmk'
  exact fJ e)
 have Rw:=hmk hmk'
 have hs:∀σ1 D1,Up σ D σ1 D1->zV σ1 D1->Glob σ1 D1 T->ay σ1 D1 ⟨T,F'⟩ ⟨T,F⟩ (Bv σ1 D1 F' F) (invoke d'.target d'.args) (invoke d.target d.args):=by
  intro σ1 D1 hu hi hg
  obtain⟨hd,hdn⟩:=hd
  cases hd with
  |mk ht ha=>exact MK hz hB.fs (ht.up hu) hdn (dI.up hu ha)
  |weird v a m c b=>exact pI hz v a
 have hrun:=pJ (P':=⟨T,F'⟩) (P:=⟨T,F⟩) (R:=λσ1 D1=>Bv σ1 D1 F' F) rfl rfl h hy hs
 rcases hx:(invoke d'.target d'.args).runT (⟨T,F'⟩:Program) u #[]with⟨r,es0⟩
 rcases hx':(invoke d.target d.args).runT (⟨T,F⟩:Program) w #[]with⟨r',es⟩
 have ht:=jT (P':=⟨T,F'⟩) (P:=⟨T,F⟩) (R:=λσ1 D1=>Bv σ1 D1 F' F) rfl rfl h hy hs hx
 rw[hx,hx']at hrun
 have hsub:∀{es:Array Event}{fn:FuncId},∀e∈seen (⟨T,F⟩:Program) fn es++ #[],e∈es:=λe he=>mem_seen (by simpa using he)
 rcases r with⟨n,u1⟩|⟨h0,u1⟩
 ·rcases r' with⟨n',w1⟩|⟨h1,w1⟩
  ·obtain⟨σ1,D1,hmv,hn,hnn⟩:=hrun
   have hf1:=hf.up hmv.up
   have hc1:=hc.mono λ_ _ x=>jf.up hmv.up x
   cases hn with
   |value hv=>
    rw[Jo Rw hx']
    exact .go (λτ hτ=>Jo hmk' (ht τ hτ)) hf1 hc1 fC (hmv.sub hsub)
   |skip=>
    rw[Po Rw hx']
    exact .go (λτ hτ=>Po hmk' (ht τ hτ)) hf1 hc1 fC (hmv.sub hsub)
   |recover=>cases hnn
   |defer hd=>
    rw[Jp Rw hx']
    exact .go (λτ hτ=>Jp hmk' (ht τ hτ)) hf1 hc1 fC (hmv.sub hsub)
   |enter f hk ha h2=>
    rw[wH Rw hx']
    by_cases hsp:Sp f
    ·exact .special hsp hk (.inr rfl) (λτ hτ=>wH hmk' (ht τ hτ)) ha hf1 hc1 fC (hmv.sub hsub) (λ_=>hmr) (λe=>by cases e) (λ_=>by simpa [ndN]using hnn) h2
    ·exact .go (iq:=fr'::cs') (cs1:=fr::cs) (λτ hτ=>wH hmk' (ht τ hτ)) (l9 hB hk hsp ha (.inr rfl) rfl rfl) (.cons hf1 hc1) fC (hmv.sub hsub)
   |round hl f hf0 ht2 hA hBc=>
    rw[Jq Rw hx']
    exact .go (iq:=fr'::cs') (cs1:=fr::cs) (λτ hτ=>Jq hmk' (ht τ hτ)) (EG hz.2.2 hB hl hf0 ht2 hA hBc (.inr rfl)) (.cons hf1 hc1) fC (hmv.sub hsub)
  ·exact hrun.elim
 ·by_cases hp:∃v,h0=.panic v
  ·obtain⟨v,rfl⟩:=hp
   rcases r' with⟨n',w1⟩|⟨h1,w1⟩
   ·exact hrun.elim
   ·cases h1 with
    |panic v'=>
     obtain⟨σ1,D1,hmv,hv⟩:=hrun
     rw[Jr Rw hx']
     exact .go (λτ hτ=>Jr hmk' (ht τ hτ)) (oC (hf.up hmv.up) (.cons (.mk false hv) .nil)) (hc.mono λ_ _ x=>jf.up hmv.up x) (fC.top (kU _ _)) (hmv.sub hsub)
    |_=>exact hrun.elim
  ·have hb:cZ h0:=by
    cases h0<;>first|exact hrun|exact absurd ⟨_,rfl⟩ hp
   obtain⟨o,es',e⟩:=acF (cx:=cs'++tl) hmk' hb hx
   exact fJ e
section
variable {Q : Program} {main : Bool} {fx c : Frame} {cx : List Frame} {v0 v1 : World} {es : Array Event}
theorem BI{d:Deferred}{ds:List Deferred}(hd:fx.defers=d::ds)(ht:∀r,d.target≠ .collected r):unwind Q main fx cx none v0=callDeferred Q {fx with defers:=ds} cx none d v0:=by
 obtain⟨fn,tmps,todo,defers,mode,kind,round⟩:=fx
 dsimp only at hd
 subst hd
 obtain⟨t,a⟩:=d
 unfold unwind
 cases t<;>first|rfl|exact absurd rfl (ht _)
theorem BJ{r:Nat}{a:Array Value}{ds calls:List Deferred}(hd:fx.defers=⟨.collected r,a⟩::ds)(hr:(Instr.takeDeferred r).runT Q v0 #[]=(.ok calls v1,es)):unwind Q main fx cx none v0=.go (G {fx with defers:=calls++ds} cx) v1 (seen Q fx.fn es++ #[]):=by
 obtain⟨fn,tmps,todo,defers,mode,kind,round⟩:=fx
 dsimp only at hd
 subst hd
 unfold unwind
 simp only[hr]
 rfl
theorem BK{r:Nat}{a:Array Value}{ds:List Deferred}(hd:fx.defers=⟨.collected r,a⟩::ds){h:Halt}(hr:(Instr.takeDeferred r).runT Q v0 #[]=(.halt h v1,es)):∃o es',unwind Q main fx cx none v0=.ended o v1 es':=by
 obtain⟨fn,tmps,todo,defers,mode,kind,round⟩:=fx
 dsimp only at hd
 subst hd
 unfold unwind
 simp only[hr]
 exact⟨_,_,rfl⟩
theorem BL{ch:List PanicEntry}(hd:fx.defers=[])(hm:fx.mode=.panicking ch)(hc:fx.catches Q=false):unwind Q main fx (c::cx) none v0=.go (G (c.raise ch) cx) v0 #[]:=by
 obtain⟨fn,tmps,todo,defers,mode,kind,round⟩:=fx
 dsimp only at hd hm
 subst hd hm
 unfold unwind
 simp only[hc,Bool.false_eq_true,if_false]
 rfl
theorem pO{f:Func}(hd:fx.defers=[])(hm:fx.mode=.returning)(hf:Q.funcs[fx.fn]? =some f){v:Value}(hr:(results f fx.tmps).runT Q v0 #[]=(.ok v v1,es)):unwind Q main fx cx none v0=GStep.after (seen Q fx.fn es) (doReturn Q main fx cx none v v1):=by
 obtain⟨fn,tmps,todo,defers,mode,kind,round⟩:=fx
 dsimp only at hd hm hf hr
 subst hd hm
 unfold unwind
 simp only[hf,hr]
theorem BM{f:Func}(hd:fx.defers=[])(hm:fx.mode=.returning)(hf:Q.funcs[fx.fn]? =some f){h:Halt}(hr:(results f fx.tmps).runT Q v0 #[]=(.halt h v1,es)):∃o es',unwind Q main fx cx none v0=.ended o v1 es':=by
 obtain⟨fn,tmps,todo,defers,mode,kind,round⟩:=fx
 dsimp only at hd hm hf hr
 subst hd hm
 unfold unwind
 simp only[hf,hr]
 cases h<;>exact⟨_,_,rfl⟩
end
theorem yj{fr' fr:Frame}{P' P:Program}(hx:jf σ D T Sp F' F fr' fr):fr'.catches P'=false/\fr.catches P=false:=by
 have key:∀{P:Program}{fr:Frame}{l m:List Item}{rd:Bool},LR (jG σ D T (pn Sp) rd) l m->(fr.todo=l\/fr.todo=m)->fr.catches P=false:=by
  intro P fr l m rd hlm ht
  unfold Frame.catches
  cases hlm with
  |nil=>rcases ht with e|e<;>rw[e]<;>split<;>first|rfl|(rename_i h2;cases h2)
  |cons hab _=>cases hab<;>rcases ht with e|e<;>rw[e]<;>split<;>first|rfl|(rename_i h2;cases h2)
 exact⟨key hx.todo (.inl rfl),key hx.todo (.inr rfl)⟩
theorem zW{σ:Nat->Nat}{D:Nat->Prop}{r:Nat}(h:D r):ay σ D (⟨T,F'⟩:Program) (⟨T,F⟩:Program) (λ(x y:List Deferred)=>x=[]/\y=[]) (Instr.takeDeferred r) (Instr.takeDeferred (σ r)):=by
 unfold Instr.takeDeferred
 refine ay.getObj h λo o' ho=> ?_
 cases ho with
 |sF=>exact ay.setObj h .xR rfl (.pure ⟨rfl,rfl⟩)
 |_=>exact .dead (.halt trivial)
include hz hB h hy hf hc in
theorem MZ(fC:xP (fr'::cs'))(hm:fr'.mode≠ .run)(main:Bool)(hns:¬(cs'=[]/\fr'.defers=[])):eU T W0 Sp ⟨T,F'⟩ ⟨T,F⟩ tl tail σ D u w (λu=>unwind ⟨T,F'⟩ true fr' (cs'++tl) none u) (unwind ⟨T,F⟩ main fr (cs++tail) none w):=by
 have hsub:∀{es:Array Event}{fn:FuncId},∀e∈seen (⟨T,F⟩:Program) fn es++ #[],e∈es:=λe he=>mem_seen (by simpa using he)
 have hdf:=hf.defers
 revert hdf hns
 generalize hl:fr'.defers=l
 generalize hk:fr.defers=m
 intro hns hdf
 cases hdf with
 | @cons d' d l m hd hlm=>
  have hfr:=Vs hf hlm
  have hcase:(∃r a a',d'=⟨.collected r,a'⟩/\d=⟨.collected (σ r),a⟩/\D r)\/((∀r,d'.target≠ .collected r)/\∀r,d.target≠ .collected r):=by
   cases hd.1 with
   |mk ht _=>cases ht<;>first|exact .inl ⟨_,_,_,rfl,rfl,by assumption⟩|exact .inr ⟨λr e=>(by cases e),λr e=>(by cases e)⟩
   |weird=>exact .inr ⟨λr e=>(by cases e),λr e=>(by cases e)⟩
  rcases hcase with⟨r,a,a',rfl,rfl,hr⟩|⟨h1,h2⟩
  ·have hs:∀σ1 D1,Up σ D σ1 D1->zV σ1 D1->Glob σ1 D1 T->ay σ1 D1 (⟨T,F'⟩:Program) (⟨T,F⟩:Program) (λ(x y:List Deferred)=>x=[]/\y=[]) (Instr.takeDeferred r) (Instr.takeDeferred (σ r)):=λσ1 D1 hu _ _=>by
    rw[<-(hu r hr).2]
    exact zW (hu r hr).1
   have hrun:=pJ (P':=⟨T,F'⟩) (P:=⟨T,F⟩) (R:=λ_ _(x y:List Deferred)=>x=[]/\y=[]) rfl rfl h hy hs
   rcases hx1:(Instr.takeDeferred r).runT (⟨T,F'⟩:Program) u #[]with⟨r1,es0⟩
   rcases hx2:(Instr.takeDeferred (σ r)).runT (⟨T,F⟩:Program) w #[]with⟨r2,es⟩
   have ht:=jT (P':=⟨T,F'⟩) (P:=⟨T,F⟩) (R:=λ_ _(x y:List Deferred)=>x=[]/\y=[]) rfl rfl h hy hs hx1
   rw[hx1,hx2]at hrun
   rcases r1 with⟨n,u1⟩|⟨h0,u1⟩
   ·rcases r2 with⟨n',w1⟩|⟨h1,w1⟩
    ·obtain⟨σ1,D1,hmv,rfl,rfl⟩:=hrun
     rw[BJ hk hx2]
     exact .go (λτ hτ=>BJ hl (ht τ hτ)) (hfr.up hmv.up) (hc.mono λ_ _ x=>jf.up hmv.up x) (fC.top rfl) (hmv.sub hsub)
    ·exact hrun.elim
   ·obtain⟨o,es',e⟩:=BK (main:=true) (cx:=cs'++tl) hl hx1
    exact fJ e
  have hout:=Ru (tl:=tl) (tail:=tail) hz hB h hy hfr hc (fC.top rfl) hm hd
  rw[show(λu=>unwind (⟨T,F'⟩:Program) true fr' (cs'++tl) none u)=_ from funext λu=>BI (v0:=u) hl h1,BI hk h2]
  exact hout
 |nil=>
  have hmode:=hf.mode
  have hkd:=hf.kind
  have hks:=hf.kinds
  obtain⟨f',f,hf1,hf2,hres⟩:=hf.known
  have hfn:=hf.fn
  cases hc with
  |nil=>exact absurd ⟨rfl,rfl⟩ hns
  | @cons c' c l m hcc hrest=>
   generalize hx:fr'.mode=x at hmode hm
   generalize hy2:fr.mode=y at hmode
   cases hmode with
   |run=>exact absurd rfl hm
   |returning=>
    have hs:∀σ1 D1,Up σ D σ1 D1->zV σ1 D1->Glob σ1 D1 T->ay σ1 D1 (⟨T,F'⟩:Program) (⟨T,F⟩:Program) (VR σ1 D1) (results f' fr'.tmps) (results f fr.tmps):=λσ1 D1 hu hi hg=>uK hres (dI.up hu hf.tmps)
    have hrun:=pJ (P':=⟨T,F'⟩) (P:=⟨T,F⟩) (R:=λσ1 D1=>VR σ1 D1) rfl rfl h hy hs
    have acG:F'[fr'.fn]? =some f':=by rw[hfn];exact hf1
    rcases hx1:(results f' fr'.tmps).runT (⟨T,F'⟩:Program) u #[]with⟨r,es0⟩
    rcases hx2:(results f fr.tmps).runT (⟨T,F⟩:Program) w #[]with⟨r',es⟩
    have ht:=jT (P':=⟨T,F'⟩) (P:=⟨T,F⟩) (R:=λσ1 D1=>VR σ1 D1) rfl rfl h hy hs hx1
    rw[hx1,hx2]at hrun
    rcases r with⟨n,u1⟩|⟨h0,u1⟩
    ·rcases r' with⟨n',w1⟩|⟨h1,w1⟩
     ·obtain⟨σ1,D1,hmv,hv⟩:=hrun
      have h1:=hcc.up hmv.up
      have h2:=hrest.mono λ_ _ x=>jf.up hmv.up x
      rw[List.cons_append,List.cons_append,pO hk hy2 hf2 hx2]
      rcases hks with e|e
      ·rw[kJ e]
       exact .go (λτ hτ=>by
        show unwind _ _ _ (c'::(l++tl)) _ _=_
        rw[pO hl hx acG (ht τ hτ),kJ (hkd.trans e)]
        rfl) (gB h1 hv) h2 ((xP.pop fC).top (eP _ _)) (hmv.sub hsub)
      ·rw[jH e (jI h1).2]
       exact .go (λτ hτ=>by
        show unwind _ _ _ (c'::(l++tl)) _ _=_
        rw[pO hl hx acG (ht τ hτ),jH (hkd.trans e) (jI h1).1]
        rfl) (yh h1) h2 ((xP.pop fC).top (rD _)) (hmv.sub hsub)
     ·exact hrun.elim
    ·obtain⟨o,es',e⟩:=BM (main:=true) (cx:=c'::(l++tl)) hl hx acG hx1
     exact fJ e
   |panicking hch=>
    rw[List.cons_append,List.cons_append,BL hk hy2 (yj (P':=⟨T,F'⟩) hf).2]
    exact .go (λτ hτ=>BL hl hx (yj (P:=⟨T,F⟩) hf).1) (oC hcc hch) hrest ((xP.pop fC).top (kU _ _)) (Moved.refl h)
include hz hB h hy hf hc in
theorem Js(hq:Quiet tl/\Quiet tail)(fC:xP (fr'::cs'))(main:Bool)(hns:¬(cs'=[]/\fr'.mode≠ .run/\fr'.defers=[])):eU T W0 Sp ⟨T,F'⟩ ⟨T,F⟩ tl tail σ D u w (λu=>stepG ⟨T,F'⟩ true (G fr' (cs'++tl)) u) (stepG ⟨T,F⟩ main (G fr (cs++tail)) w):=by
 by_cases hm:fr'.mode=.run
 ·have hm2:fr.mode=.run:=by
   have:=hf.mode
   rw[hm]at this
   cases hx:fr.mode<;>rw[hx]at this<;>cases this
  rw[show(λu=>stepG (⟨T,F'⟩:Program) true (G fr' (cs'++tl)) u)=_ from funext λu=>oD (w:=u) hm,oD hm2]
  exact Vr hz hB h hy hf hc hq fC hm main
 ·have hm2:fr.mode≠ .run:=by
   have:=hf.mode
   intro e
   rw[e]at this
   cases hx:fr'.mode<;>rw[hx]at this<;>first|exact hm hx|cases this
  rw[show(λu=>stepG (⟨T,F'⟩:Program) true (G fr' (cs'++tl)) u)=_ from funext λu=>eX (w:=u) hm,eX hm2]
  exact MZ hz hB h hy hf hc fC hm main (λe=>hns ⟨e.1,hm,e.2⟩)
end
end Go.Proofs.YtlncengggmgdgaaGreat.par
namespace Go.Proofs.YtlncengggmgdgaaGreat.par
open Go Go.Conc
section
variable {σ : Nat → Nat} {D : Nat → Prop} {T : Tables} {Sp : FuncId → Prop} {F' F : Array Func}
def E0:World:={(default:World)with heap:= #[]}
theorem Sit.tape{W0 u w:World}(h:Sit σ D T W0 u w)(τ τ':Nat->Question->Nat):Sit σ D T W0 (tp u τ) (tp w τ'):=⟨⟨h.wr.obj,h.wr.YR,h.wr.low,h.wr.orig,h.wr.os⟩,h.inj,h.glob,h.bound,h.gu,h.gw⟩
end
def Ls(P:Program)(tl:List Frame)(fr:Frame)(cs:List Frame)(u:World)(τ:Nat->Question->Nat)(jA:Frame)(cs2:List Frame)(u2:World):Prop:=
 u.drawn<=u2.drawn/\∃es,∀τ',Agree τ' τ u.drawn u2.drawn->stepG P true (G fr (cs++tl)) (tp u τ')=.go (G jA (cs2++tl)) (tp u2 τ') es
def gJ(fr:Frame)(cs:List Frame):Prop:=cs=[]/\fr.mode≠ .run/\fr.defers=[]
inductive LT(P:Program)(tl:List Frame)(R:FuncId->Value->World->Prop):Frame->List Frame->World->Prop
 |stop {fr:Frame} {u:World} {v:Value} {τ:Nat->Question->Nat} (hl:fr.leaving P (tp u τ) (.returned v)) (hr:R fr.fn v (tp u τ)):LT P tl R fr [] u
 |step {fr:Frame} {cs:List Frame} {u:World} (hn:¬gJ fr cs) (f:(Nat->Question->Nat)->Frame) (c:(Nat->Question->Nat)->List Frame) (v:(Nat->Question->Nat)->World) (h:∀τ,Ls P tl fr cs u τ (f τ) (c τ) (v τ)) (ih:∀τ,LT P tl R (f τ) (c τ) (v τ)):LT P tl R fr cs u
theorem LT.mk{P:Program}{tl:List Frame}{R:FuncId->Value->World->Prop}{fr:Frame}{cs:List Frame}{u:World}(hn:¬gJ fr cs)(h:∀τ,∃jA cs2 u2,Ls P tl fr cs u τ jA cs2 u2/\LT P tl R jA cs2 u2):LT P tl R fr cs u:=
 .step hn (λτ=>(h τ).choose) (λτ=>(h τ).choose_spec.choose) (λτ=>(h τ).choose_spec.choose_spec.choose) (λτ=>(h τ).choose_spec.choose_spec.choose_spec.1) (λτ=>(h τ).choose_spec.choose_spec.choose_spec.2)
def Wf(T:Tables)(F':Array Func)(fr:Frame)(cs:List Frame)(u:World):Prop:=
 ∃σ D W0 jA cs2 w,Sit σ D T W0 u w/\jf σ D T (λ_=>False) F' F' fr jA/\LR (jf σ D T (λ_=>False) F' F') cs cs2/\xP (fr::cs)
section
variable {T : Tables} {F' : Array Func}
theorem Zf(hz:ZP T)(hB:vZ T (λ_=>False) F' F')(tl:List Frame)(hq:Quiet tl){fr:Frame}{cs:List Frame}{u:World}(hw:Wf T F' fr cs u)(hn:¬gJ fr cs)(τ:Nat->Question->Nat):
  (∃jA cs2 u2,Ls ⟨T,F'⟩ tl fr cs u τ jA cs2 u2/\Wf T F' jA cs2 u2)\/∃o u1 es,stepG ⟨T,F'⟩ true (G fr (cs++tl)) (tp u τ)=.ended o u1 es:=by
 obtain⟨σ,D,W0,frx,csx,w,hs,hf,hc,fC⟩:=hw
 let τw:Nat->Question->Nat:=λj=>τ (j-w.drawn+u.drawn)
 have hy:Sync (tp u τ) (tp w τw):=λi=>by
  show τ (u.drawn+i)=τ (w.drawn+i-w.drawn+u.drawn)
  rw[show w.drawn+i-w.drawn+u.drawn=u.drawn+i by omega]
 have:=Js (tl:=tl) (tail:=[]) hz hB (hs.tape τ τw) hy hf hc ⟨hq,.nil⟩ fC true hn
 generalize hx:stepG (⟨T,F'⟩:Program) true (G frx (csx++[])) (tp w τw)=s at this
 cases this with
 |bad h=>exact .inr ⟨_,_,_,h⟩
 |special hs=>exact hs.elim
 | @out jQ BF iq cs1 u1 w1 es' es es2 σ1 D1 hL hf1 hc1 hb hm=>
  have hd:u.drawn<=u1.drawn:=hm.turned.lone.drawn
  exact .inl ⟨jQ,iq,u1,⟨hd,es',λτ' h'=>hL τ' h'⟩,σ1,D1,W0,BF,cs1,w1,hm.sit,hf1,hc1,hb⟩
 | @go jQ BF iq cs1 u1 w1 es' es σ1 D1 hL hf1 hc1 hb hm=>
  have hd:u.drawn<=u1.drawn:=hm.turned.lone.drawn
  exact .inl ⟨jQ,iq,u1,⟨hd,es',λτ' h'=>hL τ' h'⟩,σ1,D1,W0,BF,cs1,w1,hm.sit,hf1,hc1,hb⟩
end
noncomputable def rE (B:Nat->Prop) (d:Nat->Nat) (τ:Nat->Nat->Question->Nat) (τe:Nat->Question->Nat):Nat->Question->Nat:=by
 classical
 exactλj=>if h:∃i,B i/\d i<=j/\j<d (i+1)then τ h.choose j else τe j
theorem Vt{B:Nat->Prop}{d:Nat->Nat}{τ:Nat->Nat->Question->Nat}{τe:Nat->Question->Nat}(hB:∀i,B (i+1)->B i)(hd:∀i,B i->d i<=d (i+1)){i:Nat}(hi:B i):Agree (rE B d τ τe) (τ i) (d i) (d (i+1)):=by
 intro j h1 h2
 have hdown:∀k n,B (k+n)->B k:=by
  intro k n
  induction n with
  |zero=>exact id
  |succ n ih=>exactλh=>ih (hB _ h)
 have mono:∀k n,B (k+n)->d k<=d (k+n):=by
  intro k n
  induction n with
  |zero=>intro _;exact Nat.le_refl _
  |succ n ih=>intro h;exact Nat.le_trans (ih (hB _ h)) (hd _ (hB _ h))
 have ex:∃i,B i/\d i<=j/\j<d (i+1):=⟨i,hi,h1,h2⟩
 have e:rE B d τ τe j=τ ex.choose j:=by
  unfold rE
  rw[dif_pos ex]
 rw[e]
 obtain⟨g1,g2,g3⟩:=ex.choose_spec
 have:ex.choose=i:=by
  rcases Nat.lt_trichotomy ex.choose i with hlt|heq|hgt
  ·have:=mono (ex.choose+1) (i-(ex.choose+1)) (by rw[show ex.choose+1+(i-(ex.choose+1))=i by omega];exact hi)
   rw[show ex.choose+1+(i-(ex.choose+1))=i by omega]at this
   omega
  ·exact heq
  ·have:=mono (i+1) (ex.choose-(i+1)) (by rw[show i+1+(ex.choose-(i+1))=ex.choose by omega];exact g1)
   rw[show i+1+(ex.choose-(i+1))=ex.choose by omega]at this
   omega
 rw[this]
section
variable {P : Program}
theorem Rx{B:Nat->Prop}(hB:∀i,B (i+1)->B i){fr:Nat->Frame}{cs:Nat->List Frame}{u:Nat->World}{τ:Nat->Nat->Question->Nat}{tl:List Frame}(hg:∀i,B i->Ls P tl (fr i) (cs i) (u i) (τ i) (fr (i+1)) (cs (i+1)) (u (i+1)))(τe:Nat->Question->Nat):
  ∀n,(∀i,i<n->B i)->runN P n (lone (fr 0) (cs 0++tl) (tp (u 0) (rE B (λi=>(u i).drawn) τ τe)))=.next (lone (fr n) (cs n++tl) (tp (u n) (rE B (λi=>(u i).drawn) τ τe))):=by
 intro n
 induction n with
 |zero=>intro _;rfl
 |succ n ih=>
  intro h
  rw[runN_add,ih (λi hi=>h i (by omega))]
  have hn:=h n (by omega)
  obtain⟨hd,es,hs⟩:=hg n hn
  have hst:=hs (rE B (λi=>(u i).drawn) τ τe) (Vt (d:=λi=>(u i).drawn) hB (λi hi=>(hg i hi).1) hn)
  have:=step_lone_go (P:=P) (fr:=fr n) (cs:=cs n++tl) (fr':=fr (n+1)) (cs':=cs (n+1)++tl) (w:=tp (u n) (rE B (λi=>(u i).drawn) τ τe)) (w':=tp (u (n+1)) (rE B (λi=>(u i).drawn) τ τe)) (by
   have h0:stepG P true {frame:=fr n,callers:=cs n++tl,status:=.running,dying:=none} (tp (u n) (rE B (λi=>(u i).drawn) τ τe))=.go (G (fr (n+1)) (cs (n+1)++tl)) (tp (u (n+1)) (rE B (λi=>(u i).drawn) τ τe)) es:=hst
   rw[h0]
   rfl)
  simp only[runN,this]
end
end Go.Proofs.YtlncengggmgdgaaGreat.par
namespace Go.Proofs.YtlncengggmgdgaaGreat.par
open Go Go.Conc
def c0(k:FuncId):Frame:={fn:=k,tmps:= #[],todo:=[],defers:=[⟨.fn (.func k) #[],#[]⟩],mode:=.run,kind:=.normal}
theorem BN(k:FuncId):Quiet [c0 k]:=λc r e ch h=>by
 cases e
 simp[c0]at h
structure gq(P:Program)(k:FuncId):Prop where
 fn:∃f why,P.funcs[k]? =some f/\f.body=some (.refuse why)/\(f.name== "runtime.NumGoroutine")=false
section
variable {P : Program} {k : FuncId}
theorem iw{fr fr':Frame}{cs cs':List Frame}{w w':World}(h:lone fr cs w=lone fr' cs' w'):fr=fr'/\cs=cs'/\w=w':=by
 unfold lone at h
 injection h with h1 h2 h3
 have h4:=congrArg (λ(x:Array Goroutine)=>x[0]?) h2
 simp at h4
 exact⟨h4.1,h4.2,h1⟩
theorem Rz{n m:Nat}{a b:Machine}(h:runN P n a=.next b)(hm:n<=m):runN P m a=runN P (m-n) b:=by
 have:=runN_add P n (m-n) a
 rw[show n+(m-n)=m by omega,h]at this
 exact this
theorem runN_ended{n:Nat}{a:Machine}{o:Outcome}{w:World}(h:step P a=.ended o w)(hn:0<n):runN P n a=.ended o w:=by
 obtain⟨n,rfl⟩:∃m,n=m+1:=⟨n-1,by omega⟩
 simp only[runN,h]
theorem nM{fr fr':Frame}{cs cs':List Frame}{w w':World}{es:Array Event}(h:stepG P true (G fr cs) w=.go (G fr' cs') w' es):step P (lone fr cs w)=.next (lone fr' cs' w'):=
 step_lone_go (by
  have h0:stepG P true {frame:=fr,callers:=cs,status:=.running,dying:=none} w=.go (G fr' cs') w' es:=h
  rw[h0]
  rfl)
theorem step_end{fr:Frame}{cs:List Frame}{w w':World}{o:Outcome}{es:Array Event}(h:stepG P true (G fr cs) w=.ended o w' es):step P (lone fr cs w)=.ended o w':=
 step_lone_ended (by
  have h0:stepG P true {frame:=fr,callers:=cs,status:=.running,dying:=none} w=.ended o w' es:=h
  rw[h0]
  rfl)
theorem abO(hk:gq P k){x:Frame}(hx:x.defers=[⟨.fn (.func k) #[],#[]⟩])(hm:x.mode≠ .run)(w:World):∃y w1 o w2,step P (lone x [] w)=.next (lone y [{x with defers:=[]}] w1)/\step P (lone y [{x with defers:=[]}] w1)=.ended o w2:=by
 obtain⟨f,why,h1,h2,h3⟩:=hk.fn
 have hr:(invoke (Target.fn (.func k) #[]) #[]).runT P w #[]=(.ok (.enter k #[]) w,#[]):=by
  unfold invoke
  show(callFunc k (#[]++ #[])).runT P w #[]=_
  unfold callFunc
  show(Sem.program _).runT P w #[]=_
  simp only[Sem.runT]
  show Sem.runT P (Sem.bind (Sem.pure P) _) w #[]=_
  simp only[Sem.bind,h1,h3,Bool.false_eq_true,if_false]
  rw[h2]
  rfl
 have hs:stepG P true (G x []) w=.go (G (Frame.enter P k #[] .deferred) [{x with defers:=[]}]) w (seen P x.fn #[]++ #[]):=by
  rw[eX hm,BI hx (λr e=>by cases e)]
  exact wH (d:=⟨.fn (.func k) #[],#[]⟩) (λh=>by cases h.1) hr
 refine⟨_,_,.unsupported (Unsupported.elab why) (Frame.pos P (Frame.enter P k #[] .deferred)),w,nM hs,step_end (es:= #[]) ?_⟩
 have hm2:(Frame.enter P k #[] .deferred).mode=.run:=rfl
 rw[oD hm2]
 unfold Frame.enter
 simp only[h1,Option.bind_some,h2,Option.getD_some]
 unfold stepG.exec
 simp only[Frame.pos]
theorem Vu(hk:gq P k){x:Frame}(hx:x.defers=[⟨.fn (.func k) #[],#[]⟩])(hm:x.mode≠ .run)(w:World):∀N fr' w',runN P N (lone x [] w)=.next (lone fr' [c0 k] w')->False:=by
 intro N fr' w' hN
 obtain⟨y,w1,o,w2,h1,h2⟩:=abO hk hx hm w
 rcases N with _|_|N
 ·simp only[runN]at hN
  injection hN with hN
  have:=(iw hN).2.1
  cases this
 ·simp only[runN,h1]at hN
  injection hN with hN
  have:=(iw hN).2.1
  injection this with this _
  have:=congrArg Frame.defers this
  simp[c0]at this
 ·simp only[runN,h1,h2]at hN
  cases hN
theorem RF(hk:gq P k)(w:World):∀N fr' w',runN P N (lone (c0 k) [] w)=.next (lone fr' [c0 k] w')->False:=by
 intro N fr' w' hN
 rcases N with _|N
 ·simp only[runN]at hN
  injection hN with hN
  have:=(iw hN).2.1
  cases this
 ·have h1:step P (lone (c0 k) [] w)=.next (lone {c0 k with mode:=.returning} [] w):=nM (es:= #[]) (by rw[oD rfl];rfl)
  simp only[runN,h1]at hN
  exact Vu hk (x:={c0 k with mode:=.returning}) rfl (by simp) w N fr' w' hN
end
section
variable {T : Tables} {F' : Array Func} {k : FuncId}
theorem RG(hk:gq ⟨T,F'⟩ k){fr:Frame}{u:World}{σ:Nat->Nat}{D:Nat->Prop}{Sp:FuncId->Prop}{jA:Frame}(hf:jf σ D T Sp F' F' fr jA)(hm:fr.mode≠ .run)(hd:fr.defers=[]):∀N fr' w',runN ⟨T,F'⟩ (N+1) (lone fr [c0 k] u)=.next (lone fr' [c0 k] w')->False:=by
 intro N fr' w' hN
 obtain⟨f,f2,hf1,hf2,_⟩:=hf.known
 rw[<-hf.fn]at hf1
 have acH:fr.kind=.normal\/fr.kind=.deferred:=by rw[hf.kind];exact hf.kinds
 have hmode:=hf.mode
 generalize hx:fr.mode=x at hmode
 generalize hy:jA.mode=y at hmode
 cases hmode with
 |run=>exact hm hx
 |panicking hch=>
  have h1:step ⟨T,F'⟩ (lone fr [c0 k] u)=.next (lone ((c0 k).raise _) [] u):=nM (by rw[eX hm];exact BL hd hx (yj (P:=⟨T,F'⟩) (P':=⟨T,F'⟩) hf).1)
  simp only[runN,h1]at hN
  exact Vu hk (x:=(c0 k).raise _) rfl (by simp[c0,Frame.raise]) u N fr' w' hN
 |returning=>
  rcases hr:(results f fr.tmps).runT (⟨T,F'⟩:Program) u #[]with⟨r,es⟩
  rcases r with⟨v,u1⟩|⟨h0,u1⟩
  ·have h1:step ⟨T,F'⟩ (lone fr [c0 k] u)=.next (lone (c0 k) [] u1):=by
    rcases acH with e|e
    ·refine nM (es:=seen ⟨T,F'⟩ fr.fn es++ #[]) ?_
     rw[eX hm,pO hd hx hf1 hr,kJ e]
     rfl
    ·refine nM (es:=seen ⟨T,F'⟩ fr.fn es++ #[]) ?_
     rw[eX hm,pO hd hx hf1 hr,jH e (λch h=>by simp[c0]at h)]
     rfl
   simp only[runN,h1]at hN
   exact RF hk u1 N fr' w' hN
  ·obtain⟨o,es',e⟩:=BM (main:=true) (cx:=[c0 k]) hd hx hf1 hr
   have h1:step ⟨T,F'⟩ (lone fr [c0 k] u)=.ended o u1:=step_end (by rw[eX hm];exact e)
   simp only[runN,h1]at hN
   cases hN
def Vw(T:Tables)(F':Array Func)(f:FuncId)(args:Array Value)(k:FuncId)(u0:World)(τ:Nat->Question->Nat):Machine:=lone (Frame.enter ⟨T,F'⟩ f args .normal) [c0 k] (tp u0 τ)
def Reach(T:Tables)(F':Array Func)(f:FuncId)(args:Array Value)(k:FuncId)(u0:World)(n:Nat)(fr:Frame)(cs:List Frame)(u:World):Prop:=
 ∀τe:Nat->Question->Nat,∃τ:Nat->Question->Nat,(∀j,u.drawn<=j->τ j=τe j)/\runN ⟨T,F'⟩ n (Vw T F' f args k u0 τ)=.next (lone fr (cs++[c0 k]) (tp u τ))/\
  ∀i,i<n->∀fr' w',runN ⟨T,F'⟩ i (Vw T F' f args k u0 τ)=.next (lone fr' [c0 k] w')->¬(fr'.mode≠ .run/\fr'.defers=[])
theorem Reach.start{f:FuncId}{args:Array Value}{u0:World}:Reach T F' f args k u0 0 (Frame.enter ⟨T,F'⟩ f args .normal) [] u0:=λτe=>⟨τe,λ_ _=>rfl,rfl,λi hi=>absurd hi (Nat.not_lt_zero _)⟩
theorem Reach.next{f:FuncId}{args:Array Value}{u0:World}{n:Nat}{fr jA:Frame}{cs cs2:List Frame}{u u2:World}{τ:Nat->Question->Nat}(h:Reach T F' f args k u0 n fr cs u)(hn:¬gJ fr cs)(hg:Ls ⟨T,F'⟩ [c0 k] fr cs u τ jA cs2 u2):Reach T F' f args k u0 (n+1) jA cs2 u2:=by
 intro τe
 obtain⟨hd,es,hs⟩:=hg
 obtain⟨τ1,h1,h2,h3⟩:=h (λj=>if j<u2.drawn then τ j else τe j)
 refine⟨τ1,λj hj=> ?_,?_,λi hi fr' w' hr=> ?_⟩
 ·rw[h1 j (by omega),if_neg (by omega)]
 ·rw[runN_add,h2]
  have hst:=hs τ1 (λj h4 h5=>by rw[h1 j h4,if_pos h5])
  simp only[runN,nM hst]
 ·rcases Nat.lt_or_ge i n with hlt|hge
  ·exact h3 i hlt fr' w' hr
  ·obtain rfl:i=n:=by omega
   rw[h2]at hr
   injection hr with hr
   obtain⟨e1,e2,_⟩:=iw hr
   subst e1
   have e3:cs=[]:=by
    rcases cs with _|⟨c,cs⟩
    ·rfl
    ·have:=congrArg List.length e2
     simp at this
   exactλh=>hn ⟨e3,h⟩
section
variable {f : FuncId} {args : Array Value} {u0 : World} {R : (Nat → Question → Nat) → Value → World → Prop}
theorem EJ(hk:gq ⟨T,F'⟩ k)(hC:∀τ,Calls ⟨T,F'⟩ f args (tp u0 τ) (λe w=>∃v,e=.returned v/\R τ v w)){n:Nat}{fr:Frame}{cs:List Frame}{u:World}(h:Reach T F' f args k u0 n fr cs u)(τe:Nat->Question->Nat):
  ∃τ,(∀j,u.drawn<=j->τ j=τe j)/\∃N fr' w' v,n<=N/\runN ⟨T,F'⟩ (N-n) (lone fr (cs++[c0 k]) (tp u τ))=.next (lone fr' [c0 k] w')/\fr'.leaving ⟨T,F'⟩ w' (.returned v)/\fr'.fn=f/\R τ v w':=by
 obtain⟨τ,h1,h2,h3⟩:=h τe
 refine⟨τ,h1,?_⟩
 obtain⟨e,w',fr',⟨v,rfl,hR⟩,hcom,hfn,hl⟩:=hC τ [c0 k]
 obtain⟨N,hN⟩:Steps ⟨T,F'⟩ _ _:=hcom
 have hle:n<=N:=by
  apply Classical.byContradiction
  intro hlt
  exact h3 N (by omega) fr' w' hN ⟨by rw[hl.1];exact FrameMode.noConfusion,hl.2.1⟩
 exact⟨N,fr',w',v,hle,by rw[<-Rz h2 hle];exact hN,hl,hfn,hR⟩
theorem zk(hz:ZP T)(hB:vZ T (λ_=>False) F' F')(hk:gq ⟨T,F'⟩ k)(hw:Wf T F' (Frame.enter ⟨T,F'⟩ f args .normal) [] u0)
  (hC:∀τ,Calls ⟨T,F'⟩ f args (tp u0 τ) (λe w=>∃v,e=.returned v/\R τ v w)):LT ⟨T,F'⟩ [c0 k] (λg v w=>g=f/\R w.tape v w) (Frame.enter ⟨T,F'⟩ f args .normal) [] u0:=by
 have next:∀n fr cs u,Reach T F' f args k u0 n fr cs u->Wf T F' fr cs u->¬LT ⟨T,F'⟩ [c0 k] (λg v w=>g=f/\R w.tape v w) fr cs u->
   ¬gJ fr cs/\∃τ jA cs2 u2,Ls ⟨T,F'⟩ [c0 k] fr cs u τ jA cs2 u2/\Wf T F' jA cs2 u2/\¬LT ⟨T,F'⟩ [c0 k] (λg v w=>g=f/\R w.tape v w) jA cs2 u2:=by
  intro n fr cs u hr hwf hn
  have Pq:¬gJ fr cs:=by
   rintro⟨rfl,hm,hd⟩
   obtain⟨τ,_,N,fr',w',v,hle,hN,hl,acI,hR⟩:=EJ hk hC hr (λ_ _=>0)
   obtain⟨_,D,_,_,_,_,_,hf,_⟩:=hwf
   rcases Nat.eq_zero_or_pos (N-n)with h0|hpos
   ·rw[h0]at hN
    simp only[runN,List.nil_append]at hN
    injection hN with hN
    obtain⟨e1,_,e3⟩:=iw hN
    subst e1 e3
    exact hn (.stop hl ⟨acI,hR⟩)
   ·obtain⟨M,hM⟩:∃M,N-n=M+1:=⟨N-n-1,by omega⟩
    rw[hM]at hN
    exact RG hk hf hm hd M fr' w' hN
  refine⟨Pq,?_⟩
  apply Classical.byContradiction
  intro hno
  refine hn (LT.mk Pq λτe=> ?_)
  apply Classical.byContradiction
  intro aiR
  obtain⟨τ,h1,N,fr',w',v,hle,hN,hl,acI,hR⟩:=EJ hk hC hr τe
  rcases Zf hz hB [c0 k] (BN k) hwf Pq τ with⟨jA,cs2,u2,hg,aiS⟩|⟨o,u1,es,he⟩
  ·have hg2:Ls ⟨T,F'⟩ [c0 k] fr cs u τe jA cs2 u2:=by
    obtain⟨hd,es,hs⟩:=hg
    exact⟨hd,es,λτ' hτ'=>hs τ' (λj h4 h5=>by rw[hτ' j h4 h5,h1 j h4])⟩
   apply hno
   refine⟨τe,jA,cs2,u2,hg2,aiS,λhlt=>aiR ⟨jA,cs2,u2,hg2,hlt⟩⟩
  ·rcases Nat.eq_zero_or_pos (N-n)with h0|hpos
   ·rw[h0]at hN
    simp only[runN]at hN
    injection hN with hN
    obtain⟨e1,e2,e3⟩:=iw hN
    subst e1
    have e4:cs=[]:=by
     rcases cs with _|⟨c,cs⟩
     ·rfl
     ·have:=congrArg List.length e2
      simp at this
    exact Pq ⟨e4,by rw[hl.1];exact FrameMode.noConfusion,hl.2.1⟩
   ·rw[runN_ended (step_end he) hpos]at hN
    cases hN
 apply Classical.byContradiction
 intro hn
 let S:={s:Nat×Frame×List Frame×World//Reach T F' f args k u0 s.1 s.2.1 s.2.2.1 s.2.2.2/\Wf T F' s.2.1 s.2.2.1 s.2.2.2/\¬LT ⟨T,F'⟩ [c0 k] (λg v w=>g=f/\R w.tape v w) s.2.1 s.2.2.1 s.2.2.2}
 have nx:∀s:S,∃(s2:S)(τ:Nat->Question->Nat),¬gJ s.1.2.1 s.1.2.2.1/\Ls ⟨T,F'⟩ [c0 k] s.1.2.1 s.1.2.2.1 s.1.2.2.2 τ s2.1.2.1 s2.1.2.2.1 s2.1.2.2.2:=by
  rintro⟨⟨n,fr,cs,u⟩,h1,h2,h3⟩
  obtain⟨he,τ,jA,cs2,u2,hg,hw2,hn2⟩:=next n fr cs u h1 h2 h3
  exact⟨⟨⟨n+1,jA,cs2,u2⟩,h1.next he hg,hw2,hn2⟩,τ,he,hg⟩
 let s0:S:=⟨⟨0,_,_,_⟩,Reach.start,hw,hn⟩
 let seq:Nat->S:=λn=>Nat.rec s0 (λ_ s=>(nx s).choose) n
 have hseq:∀n,seq (n+1)=(nx (seq n)).choose:=λ_=>rfl
 let τs:Nat->Nat->Question->Nat:=λn=>(nx (seq n)).choose_spec.choose
 have hg:∀n,¬gJ (seq n).1.2.1 (seq n).1.2.2.1/\Ls ⟨T,F'⟩ [c0 k] (seq n).1.2.1 (seq n).1.2.2.1 (seq n).1.2.2.2 (τs n) (seq (n+1)).1.2.1 (seq (n+1)).1.2.2.1 (seq (n+1)).1.2.2.2:=λn=>(nx (seq n)).choose_spec.choose_spec
 have hrun:=Rx (P:=⟨T,F'⟩) (B:=λ_=>True) (λ_ h=>h) (fr:=λn=>(seq n).1.2.1) (cs:=λn=>(seq n).1.2.2.1) (u:=λn=>(seq n).1.2.2.2) (τ:=τs) (λi _=>(hg i).2) (λ_ _=>0)
 generalize rE (λ_=>True) (λn=>((seq n).1.2.2.2).drawn) τs (λ_ _=>0)=τ at hrun
 obtain⟨e,w',fr',⟨v,rfl,hR⟩,hcom,hfn,hl⟩:=hC τ [c0 k]
 obtain⟨N,hN⟩:Steps ⟨T,F'⟩ _ _:=hcom
 have hr:=hrun N (λ_ _=>trivial)
 have hN':runN ⟨T,F'⟩ N (lone (seq 0).1.2.1 ((seq 0).1.2.2.1++[c0 k]) (tp (seq 0).1.2.2.2 τ))=.next (lone fr' [c0 k] w'):=hN
 rw[hr]at hN'
 injection hN' with hN'
 obtain⟨e1,e2,_⟩:=iw hN'
 refine(hg N).1 ⟨?_,?_,?_⟩
 ·rcases hcs:(seq N).1.2.2.1 with _|⟨c,cs⟩
  ·rfl
  ·rw[hcs]at e2
   have:=congrArg List.length e2
   simp at this
 ·rw[e1,hl.1];exact FrameMode.noConfusion
 ·rw[e1];exact hl.2.1
end
end
end Go.Proofs.YtlncengggmgdgaaGreat.par
