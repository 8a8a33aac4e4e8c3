/- A wait group's phase: what is held of the trace. No conditions. -/
import Derived.Test.YtlncengggmgdgaaGreatG10
import Derived.Conc.CrowdInv
set_option linter.unusedVariables false
set_option linter.unusedSimpArgs false
namespace Go.Proofs.YtlncengggmgdgaaGreat.par
open Go Go.Conc
open Go.ConcN (CT Apart Deaf_absent PermW RelBy handedOver_all)
open Go.ConcR (stA smA)
def Rl(Wg:Nat)(t:Trace)(k r:Nat):Prop:=RelBy (stA Wg) t k r/\∀i op x,r<i->t[i]? =some op->op.g=k->op.act.touch?=some x->inB (λb=>b=Wg) x.loc
structure TR(N0 Wg:Nat)(S0:Nat->Prop)(rl:Nat->Prop)(N:Nat)(t:Trace):Prop where
 rel:∀k,N0<=k->k<N->rl k->∃r,Rl Wg t k r
 norel:NoRelease (stA Wg) t
 over:∀i g,t.g? i=some g->g≠0->g<N0->t.counts i->∃j,t.g? j=some 0/\HappensBefore t i j
 knew:∀i op a,t[i]? =some op->op.act.touch?=some a->op.g≠0->op.g<N0->¬inB S0 a.loc->Knows t 0 i
section
variable {N0 Wg N : Nat} {S0 : Nat → Prop} {rl : Nat → Prop} {t : Trace}
theorem Rl.other{k r g:Nat}{u:Trace}(h:Rl Wg t k r)(hu:∀op∈u,op.g=g)(hg:g≠k):Rl Wg (t++u) k r:=by
 refine⟨h.1.appOther hu hg,λi op x hi ho hk hx=> ?_⟩
 rcases getElem?_append_cases ho with⟨_,ho'⟩|⟨_,hou⟩
 ·exact h.2 i op x hi ho' hk hx
 ·exact absurd ((hu op hou).symm.trans hk) hg
def pV(Wg d:Nat)(es:Array Event):Prop:=∀j e,es[j]? =some e->(MemAct.ofEvent e).touch?=none\/((∃ad wr,e=⟨.cell ad,wr,true⟩/\ad.block=Wg)/\0<deafBehind d (es.extract 0 j))
theorem Rl.own{k r:Nat}(h:Rl Wg t k r)(fn:FuncId)(pos:String){es:Array Event}(hes:pV Wg (Deaf t k) es):Rl Wg (t++MemOp.ofEvents k fn pos es) k r:=by
 refine⟨h.1.appOwn fn pos es λj e he=>(hes j e he).imp id λ⟨⟨ad,wr,h1,_⟩,h2⟩=>⟨⟨ad,wr,h1⟩,h2⟩,λi op x hi ho hk hx=> ?_⟩
 rcases getElem?_append_cases ho with⟨_,ho'⟩|⟨_,hou⟩
 ·exact h.2 i op x hi ho' hk hx
 ·obtain⟨e,he,rfl⟩:=Go.Conc.mem_ofEvents hou
  obtain⟨j,hj⟩:=Array.mem_iff_getElem?.1 he
  rcases hes j e hj with h0|⟨⟨ad,wr,rfl,hb⟩,_⟩
  ·rw[h0]at hx;cases hx
  ·have:x.loc=.cell ad:=by cases wr<;>(simp[MemAct.ofEvent,MemAct.touch?]at hx;subst hx;rfl)
   rw[this]
   exact hb
theorem gOf{u:Trace}{i g:Nat}(h:(t++u).g? i=some g):(t.g? i=some g/\i<t.size)\/(t.size<=i/\∃op∈u,op.g=g/\(t++u)[i]? =some op):=by
 obtain⟨op,ho,hg⟩:=Option.map_eq_some_iff.1 h
 rcases getElem?_append_cases ho with⟨hl,ho'⟩|⟨hl,hou⟩
 ·exact .inl ⟨by unfold Trace.g?;rw[ho'];exact congrArg some hg,hl⟩
 ·exact .inr ⟨hl,op,hou,hg,ho⟩
theorem TR.app(h:TR N0 Wg S0 rl N t)(i:Nat)(fn:FuncId)(pos:String){es:Array Event}(hnr:∀e∈es,e.loc≠ .mark (.release (stA Wg)))(hold:i≠0->i<N0->∀e∈es,(MemAct.ofEvent e).touch?=none)(hrl:rl i->N0<=i->pV Wg (Deaf t i) es):TR N0 Wg S0 rl N (t++MemOp.ofEvents i fn pos es):=by
 have hg:∀op∈MemOp.ofEvents i fn pos es,op.g=i:=λop hop=>by obtain⟨e,_,rfl⟩:=Go.Conc.mem_ofEvents hop;rfl
 refine⟨λk k1 kN hk=> ?_,h.norel.app λop hop hh=> ?_,λj g hj h0 hn hc=> ?_,λj op a ho hx h0 hn hs=> ?_⟩
 ·obtain⟨r,hr⟩:=h.rel k k1 kN hk
  by_cases hki:i=k
  ·subst hki;exact⟨r,hr.own fn pos (hrl hk k1)⟩
  ·exact⟨r,hr.other hg hki⟩
 ·obtain⟨e,he,rfl⟩:=Go.Conc.mem_ofEvents hop
  exact hnr e he (Go.ConcR.loc_of_ofEvent hh)
 ·rcases gOf hj with⟨h1,hl⟩|⟨_,op,hop,h1,h2⟩
  ·obtain⟨q,hq,hb⟩:=h.over j g h1 h0 hn ((counts_old hl).1 hc)
   have hql:q<t.size:=by
    unfold Trace.g? at hq
    obtain⟨z,hz,_⟩:=Option.map_eq_some_iff.1 hq
    exact lt_size_of_getElem? hz
   exact⟨q,by simpa [Trace.g?,getElem?_append_old hql]using hq,hb_app _ hb⟩
  ·have hgi:i=g:=(hg op hop).symm.trans h1
   subst hgi
   obtain⟨x,hx,_⟩:=hc
   rw[act?_of h2]at hx
   obtain⟨e,he,rfl⟩:=Go.Conc.mem_ofEvents hop
   have:=hold h0 hn e he
   simp only[Option.bind_some,this]at hx
   cases hx
 ·rcases getElem?_append_cases ho with⟨_,ho'⟩|⟨_,hou⟩
  ·exact(h.knew j op a ho' hx h0 hn hs).app _
  ·obtain⟨e,he,rfl⟩:=Go.Conc.mem_ofEvents hou
   rw[hold h0 hn e he]at hx
   cases hx
theorem TR.release(h:TR N0 Wg S0 rl N t){i:Nat}(hi:N0<=i)(h0:i≠0)(fn:FuncId)(pos:String)(hd:Deaf t i=0){rl':Nat->Prop}(hr:∀k,rl' k->rl k\/k=i)(hn:¬rl i):TR N0 Wg S0 rl' N (t++MemOp.ofEvents i fn pos #[Go.ConcR.mk (.releaseMerge (stA Wg))]):=by
 have h1:=h.app i fn pos (es:= #[Go.ConcR.mk (.releaseMerge (stA Wg))]) (by intro e he;simp at he;subst he;intro hh;cases hh) (λ_ hl=>absurd hl (by omega)) (λhk=>absurd hk hn)
 refine⟨λk k1 kN hk=> ?_,h1.norel,h1.over,h1.knew⟩
 rcases hr k hk with hk|rfl
 ·exact h1.rel k k1 kN hk
 ·refine⟨t.size,RelBy.new hd fn pos,λj op x hj ho hg hx=> ?_⟩
  have:=lt_size_of_getElem? ho
  have e1:(MemOp.ofEvents k fn pos #[Go.ConcR.mk (.releaseMerge (stA Wg))]).size=1:=by rw[ofEvents_eq];simp
  simp only[Array.size_append,e1]at this
  omega
theorem TR.fork(h:TR N0 Wg S0 rl N t){x y:MemOp}(hx:x.g=0/\x.act=.go N)(hy:y.g=N/\y.act=.start)(hN:N0<=N)(hrl:¬rl N):TR N0 Wg S0 rl (N+1) (t++ #[x,y]):=by
 have hnt:∀op∈(#[x,y]:Array MemOp),op.act.touch?=none:=by
  intro op hop
  simp only[List.mem_toArray,List.mem_cons,List.not_mem_nil,or_false]at hop
  rcases hop with rfl|rfl
  ·rw[hx.2];rfl
  ·rw[hy.2];rfl
 have hgs:∀op∈(#[x,y]:Array MemOp),op.g=0\/op.g=N:=by
  intro op hop
  simp only[List.mem_toArray,List.mem_cons,List.not_mem_nil,or_false]at hop
  rcases hop with rfl|rfl
  ·exact .inl hx.1
  ·exact .inr hy.1
 refine⟨λk k1 kN hk=> ?_,h.norel.app λop hop hh=> ?_,λj g hj h0 hn hc=> ?_,λj op a ho hxx h0 hn hs=> ?_⟩
 ·have hkN:k≠N:=λe=>hrl (e▸hk)
  obtain⟨r,hr⟩:=h.rel k k1 (by omega) hk
  by_cases h0:k=0
  ·subst h0
   refine⟨r,hr.1.app λi hi hgi hc=> ?_,λi op z hi ho hk hz=> ?_⟩
   ·obtain⟨z,hz,_⟩:=hc
    rcases gOf hgi with⟨_,hl⟩|⟨_,op,hop,_,h2⟩
    ·omega
    ·rw[act?_of h2]at hz
     simp only[Option.bind_some,hnt op hop]at hz
     cases hz
   ·rcases getElem?_append_cases ho with⟨_,ho'⟩|⟨_,hou⟩
    ·exact hr.2 i op z hi ho' hk hz
    ·rw[hnt op hou]at hz;cases hz
  ·refine⟨r,hr.1.appNot λop hop e=> ?_,λi op z hi ho hk hz=> ?_⟩
   ·rcases hgs op hop with h1|h1<;>omega
   ·rcases getElem?_append_cases ho with⟨_,ho'⟩|⟨_,hou⟩
    ·exact hr.2 i op z hi ho' hk hz
    ·rw[hnt op hou]at hz;cases hz
 ·simp only[List.mem_toArray,List.mem_cons,List.not_mem_nil,or_false]at hop
  rcases hop with rfl|rfl
  ·rw[hx.2]at hh;cases hh
  ·rw[hy.2]at hh;cases hh
 ·rcases gOf hj with⟨h1,hl⟩|⟨_,op,hop,h1,h2⟩
  ·obtain⟨q,hq,hb⟩:=h.over j g h1 h0 hn ((counts_old hl).1 hc)
   have hql:q<t.size:=by
    unfold Trace.g? at hq
    obtain⟨z,hz,_⟩:=Option.map_eq_some_iff.1 hq
    exact lt_size_of_getElem? hz
   exact⟨q,by simpa [Trace.g?,getElem?_append_old hql]using hq,hb_app _ hb⟩
  ·obtain⟨z,hz,_⟩:=hc
   rw[act?_of h2]at hz
   simp only[Option.bind_some,hnt op hop]at hz
   cases hz
 ·rcases getElem?_append_cases ho with⟨_,ho'⟩|⟨_,hou⟩
  ·exact(h.knew j op a ho' hxx h0 hn hs).app _
  ·rw[hnt op hou]at hxx;cases hxx
def Acq(N0 Wg N:Nat)(t:Trace):Prop:=∃q,t.act? q=some (.mark (.acquire (stA Wg)))/\t.g? q=some 0/\t.heard q/\∀k,N0<=k->k<N->∃r,Rl Wg t k r/\r<q
theorem Acq.app(h:Acq N0 Wg N t)(i:Nat)(fn:FuncId)(pos:String){es:Array Event}(hN0:1<=N0)(hrl:N0<=i->pV Wg (Deaf t i) es):Acq N0 Wg N (t++MemOp.ofEvents i fn pos es):=by
 obtain⟨q,h1,h2,h3,h4⟩:=h
 have hq:=lt_of_act? h1
 have hg:∀op∈MemOp.ofEvents i fn pos es,op.g=i:=λop hop=>by obtain⟨e,_,rfl⟩:=Go.Conc.mem_ofEvents hop;rfl
 refine⟨q,by rw[act?_old hq];exact h1,by rw[g?_old hq];exact h2,(heard_old hq).2 h3,λk k1 kN=> ?_⟩
 obtain⟨r,hr,hrq⟩:=h4 k k1 kN
 by_cases hki:i=k
 ·subst hki;exact⟨r,hr.own fn pos (hrl k1),hrq⟩
 ·exact⟨r,hr.other hg hki,hrq⟩
theorem Acq.new(h:TR N0 Wg S0 rl N t)(hN0:1<=N0)(hall:∀k,N0<=k->k<N->rl k)(hd:Deaf t 0=0)(fn:FuncId)(pos:String):Acq N0 Wg N (t++MemOp.ofEvents 0 fn pos #[Go.ConcR.mk (.acquire (stA Wg))]):=by
 have e1:MemOp.ofEvents 0 fn pos #[Go.ConcR.mk (.acquire (stA Wg))]= #[{g:=0,fn,pos,act:=.mark (.acquire (stA Wg))}]:=by rw[ofEvents_eq];simp[Go.ConcR.mk,MemAct.ofEvent]
 have hy:(t++ #[({g:=0,fn,pos,act:=.mark (.acquire (stA Wg))}:MemOp)])[t.size]? =some {g:=0,fn,pos,act:=.mark (.acquire (stA Wg))}:=by simp
 rw[e1]
 refine⟨t.size,by rw[act?_of hy],by simp[Trace.g?],⟨0,by simp[Trace.g?],by rw[deaf_old (Nat.le_refl _)];exact hd⟩,λk k1 kN=> ?_⟩
 obtain⟨r,hr⟩:=h.rel k k1 kN (hall k k1 kN)
 exact⟨r,hr.other (g:=0) (λop hop=>by simp at hop;rw[hop]) (by omega),lt_of_act? hr.1.act⟩
end
end Go.Proofs.YtlncengggmgdgaaGreat.par
namespace Go.Proofs.YtlncengggmgdgaaGreat.par
open Go Go.Conc
open Go.ConcN (CT Apart Deaf_absent PermW RelBy sumTo sumTo_congr)
open Go.ConcR (stA smA WgAt KK rd wr)
structure gW where
 P:Program
 N0:Nat
 Wg:Nat
 wB:Nat
 S0:Nat->Prop
 B1:Nat
 tW:TypeId
 tB:TypeId
 bnd:Nat
 gd:Nat->Prop
 Wz:World
inductive Ft where
 |a1 (r:Nat)|go (r:Nat)|w1|w2 (vs:Nat)|w3|w4|acq|fin
 |own (r:Nat)|d1|d2|d3|d4
def Ft.main:Ft->Prop
 | .a1 _| .go _| .w1| .w2 _| .w3| .w4| .acq| .fin=>True
 |_=>False
def Ft.open:Ft->Prop
 | .a1 _| .go _| .w1| .w2 _=>True
 |_=>False
def Ft.over:Ft->Prop
 | .w4| .acq| .fin=>True
 |_=>False
def Ft.pend:Ft->Nat
 | .go _=>1
 |_=>0
def Ft.left:Ft->Nat
 | .a1 r| .go r=>r+1
 |_=>0
def counted:Option Ft->Nat
 |some (.own _)|some .d1=>1
 |_=>0
def Ft.weigh(v b:Nat):Ft->Nat
 | .a1 r=>1000+(b+100)*(2*r+2)
 | .go r=>1000+(b+100)*(2*r+1)
 | .w1=>8*v+5
 | .w2 vs=>8*vs+4
 | .w3=>6
 | .w4=>4
 | .acq=>3
 | .fin=>2
 | .own r=>10+r
 | .d1=>5
 | .d2=>4
 | .d3=>3
 | .d4=>2
def GuQ(w w':World)(es:Array Event):Prop:=w'=w/\∀e∈es,Event.mute e=true
namespace gW
variable (A : gW)
def Sh(b:Nat):Prop:=A.S0 b\/b=A.Wg\/b=A.wB
def Rd(b:Nat):Prop:=b<A.B1/\b≠A.Wg/\b≠A.wB/\¬A.S0 b
def WB(v:Int)(w:World):Prop:=w.heap[A.wB]? =some (.cells #[.int .i64 v] A.tB)
def Live(w:World):Prop:=((∃st sm,WgAt A.tW A.Wg w st sm)/\∃v,A.WB v w)/\mW A.Rd A.Wz w
def Ry(w w₁:World):Prop:=A.Live w->A.Live w₁
abbrev Env:(Nat->Prop)->World->World->Prop:=dO A.Rd A.Ry
def Pz:Addr:=⟨A.wB,0,none⟩
abbrev LQ(S:(Nat->Prop)->Nat->Goroutine->World->Prop):=OT A.P false A.Env (λ_=>GuQ) S
abbrev LW(S:(Nat->Prop)->Nat->Goroutine->World->Prop):=OT A.P false A.Env (Gn A.Rd A.Sh False) S
abbrev LM(S:(Nat->Prop)->Nat->Goroutine->World->Prop):=OT A.P true A.Env (Gn A.Rd A.Sh ((0:Nat)=0)) S
def D4(O:Nat->Prop)(d:Nat)(g:Goroutine)(w:World):Prop:=
 d=1/\g.status=.running/\mayWake A.P g=true/\(WgAt A.tW A.Wg w 0 0->∃g',stepG A.P false g w=.go g' (w.setCell (smA A.Wg) (.int .u32 1)) (semEvents (smA A.Wg))/\∃q,QuitsD A.P q 1 g')
def D3(O:Nat->Prop)(d:Nat)(g:Goroutine)(w:World):Prop:=
 d=1/\g.status=.running/\(WgAt A.tW A.Wg w 1 0->∃g',stepG A.P false g w=.go g' (w.setCell (stA A.Wg) (.int .u64 0)) #[wr (stA A.Wg)]/\A.LQ A.D4 O 1 g' (w.setCell (stA A.Wg) (.int .u64 0)))
def D2(O:Nat->Prop)(d:Nat)(g:Goroutine)(w:World):Prop:=
 d=1/\g.status=.running/\(WgAt A.tW A.Wg w 1 0->∃g',stepG A.P false g w=.go g' w #[rd (stA A.Wg)]/\A.LQ A.D3 O 1 g' w)
def D1(O:Nat->Prop)(d:Nat)(g:Goroutine)(w:World):Prop:=
 d=1/\g.status=.running/\∀v wt:Nat,wt<=1->v<2147483647->WgAt A.tW A.Wg w ((v+1)*KK+wt) 0->
  ∃g',stepG A.P false g w=.go g' (w.setCell (stA A.Wg) (.int .u64 (v*KK+wt))) #[rd (stA A.Wg),wr (stA A.Wg)]/\
   ((v=0/\wt=1)->A.LQ A.D2 O 1 g' (w.setCell (stA A.Wg) (.int .u64 (v*KK+wt))))/\(¬(v=0/\wt=1)->∃q,QuitsD A.P q 1 g')
def Rel(k r:Nat)(O:Nat->Prop)(d:Nat)(g:Goroutine)(w:World):Prop:=
 d=0/\g.status=.running/\(r=A.bnd↔A.gd k)/\∃g',stepG A.P false g w=.go g' w #[Go.ConcR.mk (.releaseMerge (stA A.Wg))]/\A.LQ A.D1 O 0 g' w
def Own(k:Nat):Nat->(Nat->Prop)->Nat->Goroutine->World->Prop
 |0=>A.Rel k 0
 |r+1=>λO d g w=>A.Rel k (r+1) O d g w\/(d=0/\g.status=.running/\∀v:Int,0<=v->v<9223372036854775807->A.WB v w->
   ∃g',stepG A.P false g w=.go g' (w.setCell A.Pz (.int .i64 (v+1))) #[rd A.Pz,wr A.Pz]/\A.LW (Own k r) O 0 g' (w.setCell A.Pz (.int .i64 (v+1))))
variable (Anch aU : (Nat → Prop) → Nat → Goroutine → World → Prop)
def Ac(O:Nat->Prop)(d:Nat)(g:Goroutine)(w:World):Prop:=
 d=0/\g.status=.running/\∃g',stepG A.P true g w=.go g' w #[Go.ConcR.mk (.acquire (stA A.Wg))]/\A.LM aU O 0 g' w
def W4(O:Nat->Prop)(d:Nat)(g:Goroutine)(w:World):Prop:=
 d=1/\g.status=.running/\(WgAt A.tW A.Wg w 0 0->∃g',stepG A.P true g w=.go g' w #[rd (stA A.Wg)]/\A.LM (A.Ac aU) O 1 g' w)
def W3(O:Nat->Prop)(d:Nat)(g:Goroutine)(w:World):Prop:=
 d=1/\g.status=.running/\g.offers=none/\
  ((∃st,WgAt A.tW A.Wg w st 0)->stepG A.P true g w=.go {g with status:=.blocked} w #[])/\
  (WgAt A.tW A.Wg w 0 1->∃g',stepG A.P true g w=.go g' (w.setCell (smA A.Wg) (.int .u32 0)) (semEvents (smA A.Wg))/\A.LM (A.W4 aU) O 1 g' (w.setCell (smA A.Wg) (.int .u32 0)))
def W2(vs:Nat)(O:Nat->Prop)(d:Nat)(g:Goroutine)(w:World):Prop:=
 d=1/\g.status=.running/\∀v:Nat,v<2147483648->WgAt A.tW A.Wg w (v*KK) 0->
  (v=vs->∃g',stepG A.P true g w=.go g' (w.setCell (stA A.Wg) (.int .u64 (v*KK+1))) #[rd (stA A.Wg),wr (stA A.Wg)]/\A.LM (A.W3 aU) O 1 g' (w.setCell (stA A.Wg) (.int .u64 (v*KK+1))))/\
  (v≠vs->∃g',stepG A.P true g w=.go g' w #[rd (stA A.Wg)]/\A.LM Anch O 1 g' w)
def W1(O:Nat->Prop)(d:Nat)(g:Goroutine)(w:World):Prop:=
 d=1/\g.status=.running/\∀v:Nat,v<2147483648->WgAt A.tW A.Wg w (v*KK) 0->∃g',stepG A.P true g w=.go g' w #[rd (stA A.Wg)]/\
  (v=0->A.LM (A.Ac aU) O 1 g' w)/\(v≠0->A.LM (A.W2 Anch aU v) O 1 g' w)
def GoS(k:Nat)(Next:(Nat->Prop)->Nat->Goroutine->World->Prop)(O:Nat->Prop)(d:Nat)(g:Goroutine)(w:World):Prop:=
 d=0/\g.status=.running/\∃(g' child:Goroutine)(Om Oc:Nat->Prop),stepG A.P true g w=.spawn g' child w #[]/\(∀b,Om b->O b)/\(∀b,Oc b->O b)/\(∀b,Om b->¬Oc b)/\A.LW (A.Own k A.bnd) Oc 0 child w/\A.LM Next Om 0 g' w
def A1(Next:(Nat->Prop)->Nat->Goroutine->World->Prop)(O:Nat->Prop)(d:Nat)(g:Goroutine)(w:World):Prop:=
 d=1/\g.status=.running/\∀v:Nat,v<2147483647->WgAt A.tW A.Wg w (v*KK) 0->
  ∃g',stepG A.P true g w=.go g' (w.setCell (stA A.Wg) (.int .u64 ((v+1)*KK))) #[rd (stA A.Wg),wr (stA A.Wg)]/\A.LM Next O 1 g' (w.setCell (stA A.Wg) (.int .u64 ((v+1)*KK)))
def YI:Nat->(Nat->Prop)->Nat->Goroutine->World->Prop
 |0=>A.GoS 3 (A.W1 Anch aU)
 |r+1=>A.GoS (2-r) (A.A1 (YI r))
def stop(i:Nat):Ft->(Nat->Prop)->Nat->Goroutine->World->Prop
 | .a1 r=>A.A1 (A.YI Anch aU r)
 | .go r=>A.YI Anch aU r
 | .w1=>A.W1 Anch aU
 | .w2 vs=>A.W2 Anch aU vs
 | .w3=>A.W3 aU
 | .w4=>A.W4 aU
 | .acq=>A.Ac aU
 | .fin=>λO d g w=>g.status=.running/\aU O d g w
 | .own r=>A.Own (i-A.N0) r
 | .d1=>A.D1
 | .d2=>A.D2
 | .d3=>A.D3
 | .d4=>A.D4
def cnt(N:Nat)(se:Nat->Seat Ft):Nat:=sumTo (N-A.N0) λi=>counted (se (A.N0+i)).tag
def Calm(x:Seat Ft):Prop:=x=.quit\/(∃r,x=.at (.own r))\/x=.at .d1
inductive Md(N:Nat)(se:Nat->Seat Ft):Ft->Int->Int->Prop
 |opn {s:Ft} (ho:s.open) (h0:se 0=.at s) (hc:∀k,A.N0<=k->k<N->Calm (se k)) (hs:∀vs,s=.w2 vs->A.cnt N se<=vs/\1<=vs):Md N se s (((A.cnt N se+s.pend:Nat):Int)*KK) 0
 |reg (hc:∀k,A.N0<=k->k<N->Calm (se k)) (h1:1<=A.cnt N se):Md N se .w3 (((A.cnt N se:Nat):Int)*KK+1) 0
 |last (L:Nat) (hL:A.N0<=L) (hN:L<N) (hs:se L=.at .d2\/se L=.at .d3) (ho:∀k,A.N0<=k->k<N->k≠L->se k=.quit):Md N se .w3 1 0
 |mX (L:Nat) (hL:A.N0<=L) (hN:L<N) (hs:se L=.at .d4) (ho:∀k,A.N0<=k->k<N->k≠L->se k=.quit):Md N se .w3 0 0
 |sema (h0:se 0=.at .w3) (ho:∀k,A.N0<=k->k<N->se k=.quit):Md N se .w3 0 1
 |fin {s:Ft} (hf:s.over) (h0:se 0=.at s) (ho:∀k,A.N0<=k->k<N->se k=.quit):Md N se s 0 0
def rel(se:Nat->Seat Ft)(k:Nat):Prop:=∀r,se k≠ .at (.own r)
structure qL(N:Nat)(se:Nat->Seat Ft)(w:World)(t:Trace):Prop where
 n0:1<=A.N0
 lo:A.N0<=N
 mY:∃s st sm,(se 0=.at s\/(se 0=.blk s/\s=.w3))/\s.main/\N+s.left=A.N0+4/\WgAt A.tW A.Wg w st sm/\A.Md N se s st sm/\(s=.fin->Acq A.N0 A.Wg N t)
 old:∀k,1<=k->k<A.N0->se k=.quit
 work:∀k,A.N0<=k->k<N->Calm (se k)\/se k=.at .d2\/se k=.at .d3\/se k=.at .d4
 sums:∃c:Nat->Nat,A.WB ((sumTo (N-A.N0) λi=>c (A.N0+i):Nat):Int) w/\∀k,A.N0<=k->k<N->c k<=A.bnd/\(∀r,se k=.at (.own r)->c k+r=A.bnd)/\(rel se k->(c k=0↔A.gd (k-A.N0)))
 tr:TR A.N0 A.Wg A.S0 (rel se) N t
 up:∀k,N<=k->se k=.quit
def phi(tg:Nat->Option Ft):Nat:=
 (match tg 0 with|some s=>s.weigh (sumTo 4 λi=>counted (tg (A.N0+i))) A.bnd|none=>0)+sumTo 4 λi=>match tg (A.N0+i)with|some s=>s.weigh 0 0|none=>1
def gu(i:Nat):Ft->(Nat->Prop)->World->World->Array Event->Prop
 | .d1| .d2| .d3| .d4=>λ_=>GuQ
 | .own _=>Gn A.Rd A.Sh False
 |_=>Gn A.Rd A.Sh (i=0)
def iI:dY where
 P:=A.P
 Tag:=Ft
 n0:=A.N0
 M:=A.N0+3
 Sh:=A.Sh
 Rd:=A.Rd
 Live:=A.Live
 Ry:=A.Ry
 Stop:=A.stop Anch aU
 Gu:=A.gu
 phi:=A.phi
 PM:=A.qL
end gW
end Go.Proofs.YtlncengggmgdgaaGreat.par
namespace Go.Proofs.YtlncengggmgdgaaGreat.par
open Go Go.Conc
open Go.ConcN (CT Apart Deaf_absent PermW RelBy sumTo sumTo_congr)
open Go.ConcR (stA smA WgAt KK rd wr)
theorem EO{f:Nat->Nat}:∀{n:Nat},1<=sumTo n f->∃i,i<n/\1<=f i
 |0,h=>by simp[sumTo]at h
 |n+1,h=>by
  by_cases h0:1<=f n
  ·exact⟨n,Nat.lt_succ_self n,h0⟩
  ·obtain⟨i,hi,h1⟩:=EO (f:=f) (n:=n) (by simp only[sumTo]at h;omega)
   exact⟨i,by omega,h1⟩
theorem TR.mono{N0 Wg N:Nat}{S0:Nat->Prop}{rl rl':Nat->Prop}{t:Trace}(h:TR N0 Wg S0 rl N t)(hr:∀k,N0<=k->k<N->rl' k->rl k):TR N0 Wg S0 rl' N t:=
 ⟨λk k1 kN hk=>h.rel k k1 kN (hr k k1 kN hk),h.norel,h.over,h.knew⟩
theorem zn{Wg d:Nat}{es:Array Event}(h:∀e∈es,Event.mute e=true):pV Wg d es:=λj e he=>.inl (touch_mute (h e (Array.mem_of_getElem? he)))
theorem BR{Wg:Nat}{es:Array Event}(h:∀e∈es,Event.mute e=true):∀e∈es,e.loc≠ .mark (.release (stA Wg)):=by
 intro e he hl
 have:=h e he
 obtain⟨loc,wr,sy⟩:=e
 dsimp only at hl
 subst hl
 simp[Event.mute]at this
theorem Gn.norel{Rd Sh O:Nat->Prop}{z:Prop}{w w':World}{es:Array Event}{Wg:Nat}(h:Gn Rd Sh z O w w' es)(hO:¬O Wg)(hl:Wg<w.heap.size):∀e∈es,e.loc≠ .mark (.release (stA Wg)):=by
 intro e he hh
 rcases h.evs e he with h1|h1|⟨_,h1⟩
 ·unfold Il at h1
  rw[hh]at h1
  rcases h1 with h1|⟨h1,_⟩
  ·exact hO h1
  ·have:w.heap.size<=Wg:=h1
   omega
 ·have:=h1.2
  rw[hh]at this
  exact this
 ·rcases h1 with⟨a,h1,_⟩|⟨a,h1,_⟩|h1<;>(rw[hh]at h1;cases h1)
namespace gW
variable {A : gW} {N i : Nat} {se : Nat → Seat Ft} {w w' : World} {t : Trace}
theorem qL.keep(h:A.qL N se w t)(hi:i<N)(UD:w'.heap[A.Wg]? =w.heap[A.Wg]?)(hwB:w'.heap[A.wB]? =w.heap[A.wB]?){es:Array Event}(fn:FuncId)(pos:String)(hnr:∀e∈es,e.loc≠ .mark (.release (stA A.Wg)))
  (hold:i≠0->i<A.N0->∀e∈es,(MemAct.ofEvent e).touch?=none) (hrl:rel se i->A.N0<=i->pV A.Wg (Deaf t i) es):A.qL N se w' (t++MemOp.ofEvents i fn pos es):=by
 obtain⟨s,st,sm,h1,h2,h3,h4,h5,h6⟩:=h.mY
 obtain⟨c,hc1,hc2⟩:=h.sums
 refine⟨h.n0,h.lo,⟨s,st,sm,h1,h2,h3,?_,h5,λhf=>(h6 hf).app i fn pos h.n0 λhn=>hrl ?_ hn⟩,h.old,h.work,⟨c,?_,hc2⟩,h.tr.app i fn pos hnr hold hrl,h.up⟩
 ·unfold WgAt at h4⊢;rw[UD];exact h4
 ·subst hf
  cases h5 with
  |opn ho=>exact ho.elim
  |fin _ _ ho=>intro r e;rw[ho i hn hi]at e;cases e
 ·unfold gW.WB at hc1⊢;rw[hwB];exact hc1
theorem qL.who(h:A.qL N se w t)(hi:i<N){s:Ft}(hs:se i=.at s):(i=0/\s.main)\/(A.N0<=i/\((∃r,s=.own r)\/s=.d1\/s=.d2\/s=.d3\/s=.d4)):=by
 rcases Nat.eq_zero_or_pos i with rfl|hpos
 ·obtain⟨s',st,sm,h1,h2,_⟩:=h.mY
  rcases h1 with h1|⟨h1,_⟩
  ·rw[h1]at hs;cases hs;exact .inl ⟨rfl,h2⟩
  ·rw[h1]at hs;cases hs
 ·rcases Nat.lt_or_ge i A.N0 with hl|hl
  ·rw[h.old i hpos hl]at hs;cases hs
  ·refine .inr ⟨hl,?_⟩
   rcases h.work i hl hi with(h1|⟨r,h1⟩|h1)|h1|h1|h1<;>rw[h1]at hs<;>cases hs
   ·exact .inl ⟨r,rfl⟩
   ·exact .inr (.inl rfl)
   ·exact .inr (.inr (.inl rfl))
   ·exact .inr (.inr (.inr (.inl rfl)))
   ·exact .inr (.inr (.inr (.inr rfl)))
theorem PD{x:Seat Ft}(h:Calm x\/x=.at .d2\/x=.at .d3\/x=.at .d4):x.un=x:=by
 rcases h with(h|⟨r,h⟩|h)|h|h|h<;>rw[h]<;>rfl
theorem qL.EN(h:A.qL N se w t):A.qL N (λk=>(se k).un) w t:=by
 have hw:∀k,A.N0<=k->k<N->(se k).un=se k:=λk k1 kN=>PD (h.work k k1 kN)
 have hcnt:A.cnt N (λk=>(se k).un)=A.cnt N se:=by
  unfold gW.cnt
  exact sumTo_congr λi _=>by rw[Seat.VG]
 obtain⟨s,st,sm,h1,h2,h3,h4,h5,h6⟩:=h.mY
 obtain⟨c,hc1,hc2⟩:=h.sums
 have h0:(se 0).un=.at s:=by rcases h1 with h1|⟨h1,_⟩<;>rw[h1]<;>rfl
 have hq:∀k,A.N0<=k->k<N->se k=.quit->(se k).un=.quit:=λk _ _ e=>by rw[e];rfl
 refine⟨h.n0,h.lo,⟨s,st,sm,.inl h0,h2,h3,h4,?_,h6⟩,λk k1 kN=>by rw[h.old k k1 kN];rfl,λk k1 kN=>by rw[hw k k1 kN];exact h.work k k1 kN,⟨c,hc1,λk k1 kN=> ?_⟩,h.tr.mono λk k1 kN hr=> ?_,λk hk=>by rw[h.up k hk];rfl⟩
 ·cases h5 with
  |opn ho h0' hc hs=>
   rw[<-hcnt]
   exact .opn ho h0 (λk k1 kN=>by rw[hw k k1 kN];exact hc k k1 kN) (by rw[hcnt];exact hs)
  |reg hc h1'=>
   rw[<-hcnt]
   exact .reg (λk k1 kN=>by rw[hw k k1 kN];exact hc k k1 kN) (by rw[hcnt];exact h1')
  |last L hL hN hs ho=>exact .last L hL hN (by rw[hw L hL hN];exact hs) λk k1 kN hk=>hq k k1 kN (ho k k1 kN hk)
  |mX L hL hN hs ho=>exact .mX L hL hN (by rw[hw L hL hN];exact hs) λk k1 kN hk=>hq k k1 kN (ho k k1 kN hk)
  |sema h0' ho=>exact .sema h0 λk k1 kN=>hq k k1 kN (ho k k1 kN)
  |fin hf h0' ho=>exact .fin hf h0 λk k1 kN=>hq k k1 kN (ho k k1 kN)
 ·obtain⟨a1,a2,a3⟩:=hc2 k k1 kN
  refine⟨a1,λr e=>a2 r (by rw[<-hw k k1 kN];exact e),λhr=>a3 λr e=>hr r (show(se k).un=_ from by rw[hw k k1 kN];exact e)⟩
 ·intro r e
  exact hr r (show(se k).un=_ from by rw[hw k k1 kN];exact e)
theorem qL.some1(h:A.qL N se w t):∃i s,i<N/\se i=.at s:=by
 obtain⟨s,st,sm,h1,h2,h3,h4,h5,h6⟩:=h.mY
 have hN:0<N:=Nat.lt_of_lt_of_le h.n0 h.lo
 rcases h1 with h1|⟨h1,hs⟩
 ·exact⟨0,s,hN,h1⟩
 ·subst hs
  cases h5 with
  |opn ho=>exact ho.elim
  |reg hc h1=>
   obtain⟨i,hi,hp⟩:=EO h1
   rcases hc (A.N0+i) (by omega) (by omega)with e|⟨r,e⟩|e
   ·rw[e]at hp;simp[Seat.tag,counted]at hp
   ·exact⟨_,_,by omega,e⟩
   ·exact⟨_,_,by omega,e⟩
  |last L hL hN hs ho=>exact hs.elim (λe=>⟨L,_,hN,e⟩) λe=>⟨L,_,hN,e⟩
  |mX L hL hN hs ho=>exact⟨L,_,hN,hs⟩
  |sema h0 _=>rw[h1]at h0;cases h0
  |fin hf _ _=>exact hf.elim
variable {Anch aU : (Nat → Prop) → Nat → Goroutine → World → Prop}
theorem Own.run{k:Nat}:∀{r:Nat}{O:Nat->Prop}{d:Nat}{g:Goroutine}{w:World},A.Own k r O d g w->g.status=.running
 |0,_,_,_,_,h=>h.2.1
 |_+1,_,_,_,_,h=>h.elim (λh=>h.2.1) λh=>h.2.1
theorem YI.run:∀{r:Nat}{O:Nat->Prop}{d:Nat}{g:Goroutine}{w:World},A.YI Anch aU r O d g w->g.status=.running
 |0,_,_,_,_,h=>h.2.1
 |_+1,_,_,_,_,h=>h.2.1
theorem Aj:RN A.Ry:=⟨λ_ h=>h,λ_ _ _ h k x=>k (h x),λ_ _ h=>⟨h.1,h.2.tape,h.2.os,h.2.output,h.2.size,h.2.heap⟩⟩
theorem wK(w w':World)(hh:mW (λb=>A.Sh b\/A.Rd b) w w')(hl:A.Live w):A.Live w':=by
 obtain⟨⟨⟨st,sm,h1⟩,v,h2⟩,h3⟩:=hl
 have h:=hh.heap
 refine⟨⟨⟨st,sm,?_⟩,v,?_⟩,⟨hh.tape.trans h3.tape,hh.os.trans h3.os,hh.output.trans h3.output,Nat.le_trans h3.size hh.size,λb hb=>(h b (.inr hb)).trans (h3.heap b hb)⟩⟩
 ·unfold WgAt at h1⊢;rw[h A.Wg (.inl (.inr (.inl rfl)))];exact h1
 ·unfold gW.WB at h2⊢;rw[h A.wB (.inl (.inr (.inr rfl)))];exact h2
theorem Gq(hn:1<=A.N0):(A.iI Anch aU).Ok:=by
 refine⟨hn,Aj,λN se w w' t i k _ _ _ _ _ _ hs=>wK w w' hs,λi s O w w' es h=> ?_,λi s O d g w h=> ?_,wK,?_,?_,λN se w d t h=>⟨h.n0,h.lo,h.mY,h.old,h.work,h.sums,h.tr,h.up⟩,λN se w t h=>h.EN,λN se w t h=>h.some1⟩
 ·have q:GuQ w w' es->Gn A.Rd A.Sh (i=0) O w w' es:=λ⟨h1,h2⟩=>by
   subst h1
   exact⟨rfl,rfl,rfl,Nat.le_refl _,λ_ _ _=>rfl,λe he=>.inl (by
    have:=h2 e he
    obtain⟨loc,wr,sy⟩:=e
    cases loc with
    |mark m=>cases m<;>first|trivial|(simp[Event.mute]at this)
    |_=>simp[Event.mute]at this)⟩
  cases s with
  |d1=>exact q h
  |d2=>exact q h
  |d3=>exact q h
  |d4=>exact q h
  |own r=>exact⟨h.tape,h.os,h.output,h.size,h.kept,λe he=>(h.evs e he).imp id λh=>h.imp id λh=>h.1.elim⟩
  |_=>exact h
 ·cases s with
  |own r=>exact Own.run h
  |go r=>exact YI.run h
  |a1 r=>exact h.2.1
  |w1=>exact h.2.1
  |w2 vs=>exact h.2.1
  |w3=>exact h.2.1
  |w4=>exact h.2.1
  |acq=>exact h.2.1
  |fin=>exact h.1
  |d1=>exact h.2.1
  |d2=>exact h.2.1
  |d3=>exact h.2.1
  |d4=>exact h.2.1
 ·intro N i s se O w w' es t fn pos hi hs hO hsr hsz hlt hg hp
  have UD:w'.heap[A.Wg]? =w.heap[A.Wg]? :=hsr A.Wg (.inl (.inr (.inl rfl)))
  have hwB:w'.heap[A.wB]? =w.heap[A.wB]? :=hsr A.wB (.inl (.inr (.inr rfl)))
  have hOW:¬O A.Wg:=λho=>(hO _ ho).1 (.inr (.inl rfl))
  have hlW:A.Wg<w.heap.size:=hlt A.Wg (.inl (.inr (.inl rfl)))
  have hp':A.qL N se w t:=hp
  have q:GuQ w w' es->A.qL N se w' (t++MemOp.ofEvents i fn pos es):=λ⟨h1,h2⟩=>hp'.keep hi UD hwB fn pos (BR h2) (λ_ _ e he=>touch_mute (h2 e he)) λ_ _=>zn h2
  have m:i=0->Gn A.Rd A.Sh (i=0) O w w' es->A.qL N se w' (t++MemOp.ofEvents i fn pos es):=λh0 h1=>hp'.keep hi UD hwB fn pos (h1.norel hOW hlW) (λh=>absurd h0 h) λ_ h=>absurd hn (by omega)
  rcases hp'.who hi hs with⟨h0,hm⟩|⟨hl,⟨r,hr⟩|hr⟩
  ·refine m h0 ?_
   cases s<;>first|exact hm.elim|exact hg
  ·subst hr
   have hg':Gn A.Rd A.Sh False O w w' es:=hg
   exact hp'.keep hi UD hwB fn pos (hg'.norel hOW hlW) (λ_ h=>absurd h (by omega)) λh _=>absurd hs (h r)
  ·rcases hr with rfl|rfl|rfl|rfl<;>exact q hg
 ·intro N i se w es t fn pos hi h0 hs hm hp
  exact qL.keep hp hi rfl rfl fn pos (BR hm) (λ_ _ e he=>touch_mute (hm e he)) λ_ _=>zn hm
end gW
end Go.Proofs.YtlncengggmgdgaaGreat.par
namespace Go.Proofs.YtlncengggmgdgaaGreat.par
open Go Go.Conc
open Go.ConcN (CT Apart Deaf_absent PermW RelBy sumTo sumTo_congr sumTo_upd)
open Go.ConcR (stA smA WgAt KK rd wr)
abbrev bU(se:Nat->Seat Ft)(i:Nat)(s:Seat Ft):Nat->Seat Ft:=Go.ConcN.upd se i s
theorem aQ(se:Nat->Seat Ft)(i:Nat)(s:Seat Ft):bU se i s i=s:=Go.ConcN.upd_same _ _ _
theorem aO(se:Nat->Seat Ft){i k:Nat}(s:Seat Ft)(h:k≠i):bU se i s k=se k:=Go.ConcN.upd_ne _ _ h
namespace gW
variable {A : gW} {Anch aU : (Nat → Prop) → Nat → Goroutine → World → Prop}
theorem Ak(φ:Seat Ft->Nat)(se:Nat->Seat Ft){n i N0:Nat}(h1:N0<=i)(h2:i<N0+n)(s:Seat Ft):sumTo n (λj=>φ (bU se i s (N0+j)))+φ (se i)=sumTo n (λj=>φ (se (N0+j)))+φ s:=by
 have:=sumTo_upd (λj=>se (N0+j)) s φ (i:=i-N0) (j:=n) (by omega)
 rw[show N0+(i-N0)=i by omega]at this
 rw[<-this]
 congr 1
 refine sumTo_congr λj _=> ?_
 by_cases h:N0+j=i
 ·rw[h,aQ,show j=i-N0 by omega,Go.ConcN.upd_same]
 ·rw[aO _ _ h,Go.ConcN.upd_ne _ _ (by omega)]
theorem Am(se:Nat->Seat Ft){i N:Nat}(h1:A.N0<=i)(h2:i<N)(s:Seat Ft):A.cnt N (bU se i s)+counted (se i).tag=A.cnt N se+counted s.tag:=
 Ak (λx=>counted x.tag) se h1 (by omega) s
theorem VJ(hn:1<=A.N0)(se:Nat->Seat Ft){N:Nat}(s:Seat Ft):A.cnt N (bU se 0 s)=A.cnt N se:=by
 unfold gW.cnt
 exact sumTo_congr λi _=>by rw[aO _ _ (by omega)]
def wt:Option Ft->Nat
 |some s=>s.weigh 0 0
 |none=>1
theorem yx(se:Nat->Seat Ft){s:Ft}(h0:(se 0).tag=some s):A.phi (λk=>(se k).tag)=s.weigh (sumTo 4 λi=>counted (se (A.N0+i)).tag) A.bnd+sumTo 4 λi=>wt (se (A.N0+i)).tag:=by
 unfold gW.phi
 dsimp only
 rw[h0]
 rfl
theorem Nq{v v' b:Nat}(h:v'<=v)(s:Ft):s.weigh v' b<=s.weigh v b:=by cases s<;>simp only[Ft.weigh]<;>omega
theorem Nr(se:Nat->Seat Ft){s:Ft}(hn:1<=A.N0)(h0:(se 0).tag=some s){i:Nat}(h1:A.N0<=i)(h2:i<A.N0+4)(s':Seat Ft)(hc:counted s'.tag<=counted (se i).tag)(hw:wt s'.tag<wt (se i).tag):A.phi (λk=>(bU se i s' k).tag)<A.phi λk=>(se k).tag:=by
 have e0:(bU se i s' 0).tag=some s:=by rw[aO _ _ (by omega)];exact h0
 rw[yx se h0,yx (bU se i s') e0]
 have a1:=Ak (λx=>counted x.tag) se h1 h2 s'
 have a2:=Ak (λx=>wt x.tag) se h1 h2 s'
 have a3:=Nq (b:=A.bnd) (show sumTo 4 (λj=>counted (bU se i s' (A.N0+j)).tag)<=sumTo 4 λj=>counted (se (A.N0+j)).tag by omega) s
 omega
theorem VK(se:Nat->Seat Ft){s s1:Ft}(hn:1<=A.N0)(h0:(se 0).tag=some s)(s':Seat Ft)(h':s'.tag=some s1)(hw:s1.weigh (sumTo 4 λi=>counted (se (A.N0+i)).tag) A.bnd<s.weigh (sumTo 4 λi=>counted (se (A.N0+i)).tag) A.bnd):A.phi (λk=>(bU se 0 s' k).tag)<A.phi λk=>(se k).tag:=by
 have e0:(bU se 0 s' 0).tag=some s1:=by rw[aQ];exact h'
 rw[yx se h0,yx (bU se 0 s') e0]
 have a1:(sumTo 4 λi=>counted (bU se 0 s' (A.N0+i)).tag)=sumTo 4 λi=>counted (se (A.N0+i)).tag:=sumTo_congr λi _=>by rw[aO _ _ (by omega)]
 have a2:(sumTo 4 λi=>wt (bU se 0 s' (A.N0+i)).tag)=sumTo 4 λi=>wt (se (A.N0+i)).tag:=sumTo_congr λi _=>by rw[aO _ _ (by omega)]
 rw[a1,a2]
 omega
structure Turns(A:gW)(w w':World):Prop where
 tape:w'.tape=w.tape
 os:w'.os=w.os
 output:w'.output=w.output
 size:w'.heap.size=w.heap.size
 kept:∀b,¬A.Sh b->w'.heap[b]? =w.heap[b]?
 live:A.Live w'
section
variable {gs : Array Goroutine} {w w' : World} {t : Trace} {x : Nat → GR Ft} {g g' : Goroutine} {i : Nat} {m : Machine} {sl : Option (Nat × Nat)} {es : Array Event}
theorem BU(hn:1<=A.N0)(K:Machine->Trace->Prop)(hback:∀m t m' ops,stepT A.P m=(.next m',ops)->K m' (t++ops)->K m t)(hp:(A.iI Anch aU).Parts gs w t x)(hi:gs[i]? =some g)(hst:stepT A.P m=runT A.P (crowd gs w sl) i)
  (IH:∀gs' w' sl' t' x',(A.iI Anch aU).Parts gs' w' t' x'->yu (A.N0+3) ((A.iI Anch aU).mu x') ((A.iI Anch aU).mu x)->K (crowd gs' w' sl') t')
  (hgo:stepG A.P (i==0) g w=.go g' w' es) (s':Seat Ft) (rk:Rk) (hy:(A.iI Anch aU).Sits i ⟨s',rk,(x i).own,deafBehind (x i).deaf es⟩ g' w') (hw:A.Turns w w') (hev:∀e∈es,Event.mute e=true\/EvS A.Sh (i=0) e) (hN0:1<=i->A.N0<=i)
  (hun:(A.iI Anch aU).ug g g'=true->s'.un=s')
  (hpm:∀fn pos,A.qL gs.size (if(A.iI Anch aU).ug g g'=true thenλk=>(bU (λk=>(x k).seat) i s' k).un else bU (λk=>(x k).seat) i s') w' (t++MemOp.ofEvents i fn pos es))
  (hmu:A.phi (λk=>(bU (λk=>(x k).seat) i s' k).tag)<A.phi (λk=>(x k).seat.tag)\/(i=0/\(A.iI Anch aU).ug g g'=false/\s'.tag=(x 0).seat.tag/\s'.up<(x 0).seat.up)):K m t:=by
 have hrun:=runT_crowd_go (P:=A.P) (sl:=sl) (i:=i) hi hgo
 have hown:∀k,(upd ((A.iI Anch aU).wake g g' x) i ⟨s',rk,(x i).own,deafBehind (x i).deaf es⟩ k).own=(x k).own:=by
  intro k
  by_cases hk:k=i
  ·rw[hk,upd_same]
  ·rw[upd_ne _ _ hk];exact dY.BQ (A.iI Anch aU) g g' x k
 have hp':=hp.go (Gq hn) hi (w':=w') (es:=es) (g':=g') ⟨s',rk,(x i).own,deafBehind (x i).deaf es⟩
  (λk _ hk _=>⟨⟨hw.tape,hw.os,hw.output,Nat.le_of_eq hw.size.symm,λb hb=>hw.kept b (hp.ge.sh k b hb)⟩,λb hb=>hw.kept b (hp.ge.VD b hb),λ_=>hw.live⟩) hy
  (by
   rw[show(λk=>(upd ((A.iI Anch aU).wake g g' x) i ⟨s',rk,(x i).own,deafBehind (x i).deaf es⟩ k).own)=λk=>(x k).own from funext hown,hw.size]
   exact hp.ge)
  (λb hb=>.inl hb) (λb hb _=>hb) (Nat.le_of_eq hw.size.symm)
  (λe he=>(hev e he).imp (λh=>by
   obtain⟨loc,wr,sy⟩:=e
   cases loc with
   |mark m=>cases m<;>first|trivial|(simp[Event.mute]at h)
   |_=>simp[Event.mute]at h) λh=>.inr h) rfl (λh _=>hN0 h)
  (λfn pos=>by
   have:=hpm fn pos
   cases hm:(A.iI Anch aU).ug g g' with
   |true=>
    rw[hm,if_pos rfl]at this
    have e1:(λk=>(upd ((A.iI Anch aU).wake g g' x) i ⟨s',rk,(x i).own,deafBehind (x i).deaf es⟩ k).seat)=λk=>(bU (λk=>(x k).seat) i s' k).un:=by
     funext k
     by_cases hk:k=i
     ·rw[hk,upd_same,aQ];exact(hun hm).symm
     ·rw[upd_ne _ _ hk,aO _ _ hk];unfold dY.wake;rw[hm];rfl
    rw[e1]
    exact this
   |false=>
    rw[hm,if_neg (by simp)]at this
    have e1:(λk=>(upd ((A.iI Anch aU).wake g g' x) i ⟨s',rk,(x i).own,deafBehind (x i).deaf es⟩ k).seat)=bU (λk=>(x k).seat) i s':=by
     funext k
     by_cases hk:k=i
     ·rw[hk,upd_same,aQ]
     ·rw[upd_ne _ _ hk,aO _ _ hk];unfold dY.wake;rw[hm];rfl
    rw[e1]
    exact this) hw.live (λb hb=>(hp.out i b hb).2)
 refine hback _ _ _ _ (hst.trans hrun) (IH _ _ _ _ _ hp' ?_)
 have e2:(λk=>(upd ((A.iI Anch aU).wake g g' x) i ⟨s',rk,(x i).own,deafBehind (x i).deaf es⟩ k).seat.tag)=λk=>(bU (λk=>(x k).seat) i s' k).tag:=by
  funext k
  by_cases hk:k=i
  ·rw[hk,upd_same,aQ]<;>rfl
  ·rw[upd_ne _ _ hk,aO _ _ hk];exact dY.Jy (A.iI Anch aU) g g' x k
 rcases hmu with hmu|⟨rfl,hm,htag,hup⟩
 ·unfold dY.mu
  rw[e2]
  exact .num hmu
 ·have e3:(λk=>(bU (λk=>(x k).seat) 0 s' k).tag)=λk=>(x k).seat.tag:=by
   funext k
   by_cases hk:k=0
   ·rw[hk,aQ];exact htag
   ·rw[aO _ _ hk]
  have e4:(λk=>(upd ((A.iI Anch aU).wake g g' x) 0 ⟨s',rk,(x 0).own,deafBehind (x 0).deaf es⟩ (k+1)).rank)=λk=>(x (k+1)).rank:=by
   funext k
   rw[upd_ne _ _ (Nat.succ_ne_zero k)]
   exact dY.yw (A.iI Anch aU) g g' x (k+1)
  unfold dY.mu
  rw[e2,e3,e4,upd_same]
  exact .flag hup
end
end gW
end Go.Proofs.YtlncengggmgdgaaGreat.par
