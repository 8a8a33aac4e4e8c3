/- A range over a function whose iterator may panic between two rounds: contract and law. No conditions. -/
import Derived.Test.YtlncengggmgdgaaGreatG22
import Derived.Test.YtlncengggmgdgaaGreatBase
import Derived.RangeFuncNested
import Derived.RangeFuncBound
import Derived.RangeFuncCalls
import Derived.RangeFuncLeaves
set_option linter.unusedVariables false
namespace Go.Proofs.YtlncengggmgdgaaGreat.rt
open Go.RowKit
variable {F : Fence} {n : Nat} {P : Program}
def Qr(n₀ L:Nat)(A W1 W':World):Prop:=W1.heap.size<=W'.heap.size/\∀k,k<W1.heap.size->(k<n₀/\k≠L\/A.heap.size<=k)->W'.heap[k]? =W1.heap[k]?
def Fq{α:Type}(F:Fence)(n:Nat)(P:Program)(g:Nat)(lb:Array Value)(encs:α->Array Value)(L:Nat)(S:List α->World->Prop)(T:List PanicEntry->World->Prop)(row:Option Nat)(N:Nat)(w0:World):Prop:=
 ∀(l:Nat)(J:List α->World->Prop)(W:World),Below w0.heap.size w0 W->(∀s A B,J s A->A.grownBy B row->J s B)->
  (∀pre x A W1,J pre A->pre.length<N->W.heap.size<=A.heap.size->A.grownBy W1 row->YieldAt F (n-1) P l (encs x) W1 λe W'=>
   e=.returned (.bool true)/\J (pre++[x]) W'/\Qr w0.heap.size L A W1 W')->
  J [] W->
  CallsIn F n P g (#[.func (.yield l) #[] #[]]++lb) W λe W'=>((∃v,e=.returned v)/\∃xs,S xs W'/\J xs W')\/(∃chain pre,e=.panicked chain/\T chain W'/\J pre W')
def roundEnd{α:Type}(n₀ L:Nat)(I:List α->World->Prop)(xs:List α)(A W1 W:World):Exit->Act->World->Prop
 | .normal,_,W'=>W'.heap[n₀]? =W.heap[n₀]? /\W'.heap[n₀+1]? =W.heap[n₀+1]? /\Qr n₀ L A W1 W'/\I xs W'
 |_,_,_=>False
theorem qK{α:Type}{g:Operand}{ps:Array Tmp}{assign body:Code}{Q:Exit->Act->World->Prop}{a:Act}{w:World}
  (hro:F.round=none) (h1:1<=n) {gf:Nat} {lb:Array Value} (hg:a.eval g=.func (.func gf) #[] lb) (hFg:F.fn gf) (eg:∀args w,(callFunc gf args).run P w=.ok (.enter gf args) w)
  {encs:α->Array Value} {L:Nat} {S:List α->World->Prop} {T:List PanicEntry->World->Prop} {row:Option Nat} (hrow:∀r,row=some r->r<w.heap.size)
  {N:Nat} (hseq:Fq F (n-1) P gf lb encs L S T row N w) (hps:∀x,(encs x).size=ps.size)
  (I:List α->World->Prop) (hI:∀s A B,I s A->A.grownBy B row->I s B)
  (hIp:∀s A l o o',I s A->w.heap.size<=l->A.heap[l]? =some o->o.isCells=false->I s (A.putObj l o'))
  (hSp:∀s A l o o',S s A->w.heap.size<=l->A.heap[l]? =some o->o.isCells=false->S s (A.putObj l o'))
  (h0:I [] w)
  (Oh:∀pre x A W1,I pre A->pre.length<N->w.heap.size+2<=A.heap.size->A.grownBy W1 row->(∃ob,W1.heap[w.heap.size]? =some ob/\ob.isCells=false)->(∃ob,W1.heap[w.heap.size+1]? =some ob/\ob.isCells=false)->
   assign.wpIn (F.inRound (w.heap.size+1)) (n-1-1) P (Exit.then (λa' Wa=>Wa.heap[w.heap.size]? =W1.heap[w.heap.size]? /\Wa.heap[w.heap.size+1]? =W1.heap[w.heap.size+1]? /\∀o Wb,Wb=Wa.putObj (w.heap.size+1) o->
    body.wpIn (F.inRound (w.heap.size+1)) (n-1-1) P (roundEnd w.heap.size L I (pre++[x]) A W1 Wb) a' Wb) (λ_ _ _=>False))
    {tmps:=(ps.zip (encs x)).foldl (λt(p,v)=>t.setIfInBounds p v) a.tmps,defers:=[]} W1)
  (hdone:∀(xs:List α)(W:World),S xs W->I xs W->W.heap[w.heap.size]? =some (.deferred (some []))->Q .normal {a with defers:={target:=.collected w.heap.size,args:= #[]}::a.defers} W)
  (Hl:∀(chain:List PanicEntry)(pre:List α)(W:World),T chain W->I pre W->W.heap[w.heap.size]? =some (.deferred (some []))->Q (.panic chain) {a with defers:={target:=.collected w.heap.size,args:= #[]}::a.defers} W):
  (Code.rangeFunc g ps assign body).wpIn F n P Q a w:=by
 refine wpIn_rangeFunc ?_
 intro fn hfn
 rw[hro]
 obtain⟨rec,hrec⟩:∃rec:LoopState->Option Code->Loop,rec=λst pe=>{state:=st,pending:=pe,fn,tmps:=a.tmps,params:=ps,assign,body,defers:=w.heap.size}:=⟨_,rfl⟩
 obtain⟨W1,hW1⟩:∃W1,(w.alloc (.deferred (some []))).alloc (.loop (rec .ready none))=W1:=⟨_,rfl⟩
 have hL1:W1.heap[w.heap.size+1]? =some (.loop (rec .ready none)):=by
  rw[<-hW1];have:=World.alloc_heap_new (w.alloc (.deferred (some []))) (.loop (rec .ready none));rwa[World.size_alloc]at this
 have hK1:W1.heap[w.heap.size]? =some (.deferred (some [])):=by
  rw[<-hW1];exact(Below.heap_alloc _ _ _ (by simp)).trans (World.alloc_heap_new w _)
 have hI1:I [] W1:=by rw[<-hW1];exact hI _ _ _ (hI _ _ _ h0 (World.grownBy_alloc _ _ _)) (World.grownBy_alloc _ _ _)
 have hb1:Below w.heap.size w W1:=by
  rw[<-hW1];exact((Below.refl _ w).alloc (Nat.le_refl _) _).alloc (by simp) _
 have hsz1:W1.heap.size=w.heap.size+2:=by rw[<-hW1];simp
 have hkeep:∀(A B:World)(k:Nat)(o:Obj),w.heap.size<=k->A.grownBy B row->A.heap[k]? =some o->B.heap[k]? =some o:=λA B k o hk hg' ho=>
  (hg'.block k (Array.getElem?_eq_some_iff.1 ho).1 (λe=>by have:=hrow k e.symm;omega)).trans ho
 refine⟨w.heap.size+1,[{target:=.collected w.heap.size,args:= #[]}],W1,{target:=.fn (.func gf) lb,args:= #[.func (.yield (w.heap.size+1)) #[] #[]]},W1,gf,
  #[.func (.yield (w.heap.size+1)) #[] #[]]++lb,W1,?_,?_,?_,?_,λ_=>h1,?_⟩
 ·rw[<-hW1,hrec];exact run_enterLoop_outer _ _ _ _ _
 ·simp only[resolve,hg]
  simp[go_sem]
 ·intro f' hf';simp[Target.leads]at hf';subst hf';exact hFg
 ·simp[invoke,go_sem,eg]
 ·refine(hseq (w.heap.size+1)
   (λpre W=>I pre W/\W.heap[w.heap.size+1]? =some (.loop (rec .ready none))/\W.heap[w.heap.size]? =some (.deferred (some [])))
   W1 hb1
   (λs A B hs hg'=>⟨hI s A B hs.1 hg',hkeep A B _ _ (by omega) hg' hs.2.1,hkeep A B _ _ (Nat.le_refl _) hg' hs.2.2⟩)
   ?_ ⟨hI1,hL1,hK1⟩).mono ?_
  ·rintro pre x A W ⟨hi,hl,hk⟩ hlen hsz hg'
   replace hl:=hkeep A W _ _ (by omega) hg' hl
   replace hk:=hkeep A W _ _ (Nat.le_refl _) hg' hk
   have hy:=run_yield (P:=P) (args:=encs x) hl (by rw[hrec];exact hps x)
   rw[hrec]at hy
   refine⟨fn,_,assign,body,hy,roundIn_of_wpIn hfn (wpIn_mono (Oh pre x A W hi hlen (by omega) hg' ⟨_,hk,rfl⟩ ⟨_,hl,rfl⟩) ?_)⟩
   rintro e a' Wa hp
   cases e with
   |normal=>
    obtain⟨hD,hLo,hbody⟩:=hp
    replace hl:=hLo.trans hl
    replace hk:=hD.trans hk
    have hlt:w.heap.size+1<Wa.heap.size:=(Array.getElem?_eq_some_iff.1 hl).1
    refine⟨_,run_beginRound hl (by rw[hrec]),?_⟩
    have hl2:(Wa.putObj (w.heap.size+1) (.loop {rec .ready none with state:=.busy})).heap[w.heap.size+1]? =some (.loop {rec .ready none with state:=.busy}):=World.putObj_heap_same hlt
    have hk2:(Wa.putObj (w.heap.size+1) (.loop {rec .ready none with state:=.busy})).heap[w.heap.size]? =some (.deferred (some [])):=(World.putObj_heap_other (by omega)).trans hk
    refine wpIn_mono (hbody _ _ rfl) ?_
    rintro e a3 W3 hp
    cases e with
    |normal=>
     obtain⟨q1,q2,q3,q4⟩:=hp
     have hl3:=q2.trans hl2
     have hk3:=q1.trans hk2
     have hr:=run_endRound (P:=P) none hl3
     rw[hrec]at hr hl3
     refine⟨_,_,hr,rfl,⟨hIp _ _ _ _ _ q4 (by omega) hl3 rfl,?_,?_⟩,?_⟩
     ·rw[hrec];exact World.putObj_heap_same (Array.getElem?_eq_some_iff.1 hl3).1
     ·exact(World.putObj_heap_other (by omega)).trans hk3
     ·refine⟨by simpa using q3.1,λk hk' hor=> ?_⟩
      have hne:k≠w.heap.size+1:=by omega
      exact(World.putObj_heap_other hne).trans (q3.2 k hk' hor)
    |exit id=>exact hp.elim
    |goto t=>exact hp.elim
    |ret=>exact hp.elim
    |panic ch=>exact hp.elim
    |outgrown=>exact hp.elim
   |exit id=>exact hp.elim
   |goto t=>exact hp.elim
   |ret=>exact hp.elim
   |panic ch=>exact hp.elim
   |outgrown=>exact hp.elim
  ·rintro e W2 (⟨⟨v,rfl⟩,xs,hS,hi,hl,hk⟩|⟨chain,pre,rfl,hT,hi,hl,hk⟩)
   ·exact⟨none,_,by have:=run_endLoop (P:=P) hl (by rw[hrec];simp);rw[hrec]at this;exact this,hdone xs _ (hSp _ _ _ _ _ hS (by omega) hl rfl) (hIp _ _ _ _ _ hi (by omega) hl rfl) ((World.putObj_heap_other (by omega)).trans hk)⟩
   ·exact Hl chain pre _ hT hi hk
end Go.Proofs.YtlncengggmgdgaaGreat.rt
