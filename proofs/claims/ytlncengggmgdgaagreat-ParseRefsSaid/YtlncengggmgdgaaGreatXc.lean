/- The lone program's tables are the program's. The mutex's bodies, alone. No conditions. -/
import Derived.Test.YtlncengggmgdgaaGreatG06
import Derived.Test.YtlncengggmgdgaaGreatG09
import Derived.Conc.EventLaws
set_option linter.unusedVariables false
set_option linter.unusedSimpArgs false
namespace Go.Proofs.YtlncengggmgdgaaGreat.par
open Go Go.Conc
theorem BP(T:Tables)(F F':Array Func)(t:TypeId):(⟨T,F⟩:Program).underlying t=(⟨T,F'⟩:Program).underlying t:=rfl
theorem wJ(T:Tables)(F F':Array Func)(t:TypeId)(w:World):Sem.run ⟨T,F⟩ (underlying t) w=Sem.run ⟨T,F'⟩ (underlying t) w:=by
 cases h:(⟨T,F⟩:Program).underlying t with
 |none=>simp[underlying,h,show(⟨T,F'⟩:Program).underlying t=none from h]
 |some d=>simp[underlying,h,show(⟨T,F'⟩:Program).underlying t=some d from h]
theorem Nk(T:Tables)(F F':Array Func)(t:TypeId)(w:World):Sem.run ⟨T,F⟩ (sizeOf t) w=Sem.run ⟨T,F'⟩ (sizeOf t) w:=by
 cases h:(⟨T,F⟩:Program).info? t with
 |none=>simp[sizeOf,typeInfo,h,show(⟨T,F'⟩:Program).info? t=none from h]
 |some d=>simp[sizeOf,typeInfo,h,show(⟨T,F'⟩:Program).info? t=some d from h]
theorem RI(T:Tables)(F F':Array Func)(t:TypeId)(w:World):Sem.run ⟨T,F⟩ (isAgg t) w=Sem.run ⟨T,F'⟩ (isAgg t) w:=by
 cases h:(⟨T,F⟩:Program).underlying t with
 |none=>simp[isAgg,underlying,h,show(⟨T,F'⟩:Program).underlying t=none from h]
 |some d=>
  simp[isAgg,underlying,h,show(⟨T,F'⟩:Program).underlying t=some d from h]
  cases d<;>rfl
theorem Vy(T:Tables)(F F':Array Func)(t:TypeId)(w:World):Sem.run ⟨T,F⟩ (zeroValue t) w=Sem.run ⟨T,F'⟩ (zeroValue t) w:=by
 cases h:(⟨T,F⟩:Program).info? t with
 |none=>simp[zeroValue,typeInfo,h,show(⟨T,F'⟩:Program).info? t=none from h]
 |some d=>
  simp[zeroValue,typeInfo,h,show(⟨T,F'⟩:Program).info? t=some d from h]
  cases d.zero<;>rfl
@[go_sem] theorem aB(H:Code)(t:TypeId):(ah H).underlying t=(Tryz.prog).underlying t:=BP _ _ _ t
@[go_sem] theorem Pv(H:Code)(t:TypeId)(w:World):Sem.run (ah H) (underlying t) w=Sem.run Tryz.prog (underlying t) w:=wJ _ _ _ t w
@[go_sem] theorem bF(H:Code)(t:TypeId)(w:World):Sem.run (ah H) (sizeOf t) w=Sem.run Tryz.prog (sizeOf t) w:=Nk _ _ _ t w
@[go_sem] theorem bV(H:Code)(t:TypeId)(w:World):Sem.run (ah H) (isAgg t) w=Sem.run Tryz.prog (isAgg t) w:=RI _ _ _ t w
@[go_sem] theorem dB(H:Code)(t:TypeId)(w:World):Sem.run (ah H) (zeroValue t) w=Sem.run Tryz.prog (zeroValue t) w:=Vy _ _ _ t w
theorem Gl(t:TypeId)(X Y:Operand)(v:Value)(k:IntKind)(n:Int):eqGuard .eql t X Y v (.int k n)=pure ():=by cases v<;>rfl
def isInt:Value->Bool
 | .int .. =>true
 |_=>false
theorem Gm(t:TypeId)(v:Value)(hv:isInt v=false)(k:IntKind)(n:Int):binOp .eql t v (.int k n)=(do pure (.bool (<-Op.equal t v (.int k n)))):=by
 cases v<;>first|(cases hv;done)|rfl
theorem Zj{P:Program}{t:TypeId}(ht:P.underlying t=some (.int .i32))(d:Nat)(v:Value)(hv:isInt v=false){x:Int}(hx:x=0\/x=1):
  (∃h,cZ h/\∀w,(Op.equalIn (d+1) t v (.int .i32 x)).run P w=.halt h w)\/∀w,(Op.equalIn (d+1) t v (.int .i32 x)).run P w=.ok false w/\(Op.equalIn (d+1) t v (.int .i32 x)).events P w #[]= #[]:=by
 unfold Op.equalIn
 have hu:=run_underlying (P:=P) ht
 cases v
 case pointer p=>
  cases p with
  |none=>exact .inl ⟨.unsupported .addressObserved,trivial,λw=>by simp[hu]⟩
  |some a=>
   rcases hx with rfl|rfl
   ·refine .inr λw=>⟨by simp[hu],?_⟩
    simp[go_sem,hu]
   ·exact .inl ⟨.unsupported .addressObserved,trivial,λw=>by simp[hu]⟩
 case int=>cases hv
 all_goals first
  |exact .inl ⟨.stuck _,trivial,λw=>by simp[hu];rfl⟩
section
variable {H : Code} {tl : List Frame} {R : FuncId → Value → World → Prop} {b : Frame} {T : Array Value} {cs : List Frame} {u : World} {s0 : LS} {x y : Int}
theorem Vz(h:bf (ah H) tl R s0 (b.at ⟨T,[]⟩ [.code (fA x y)]) cs u):bf (ah H) tl R s0 (b.at ⟨T,[]⟩ [.inRegion (zi x) [0,1,2],.code (ru y)]) cs u:=dR (eY h)
theorem RJ{v:Value}(hk:b.kind≠ .early)(h0:T.getD 0 undef=v)(h:bf (ah H) tl R s0 (b.at ⟨T,[]⟩ [.code (fA x y)]) cs u):∃ad,v=.pointer (some ad):=by
 have h1:=Vz h
 have hx:T[0]?.getD undef=v:=by rw[<-h0];simp
 cases v
 case pointer p=>
  cases p with
  |some ad=>exact⟨ad,rfl⟩
  |none=>
   refine(jJ (o:=dK (some 1) (.fieldAddr 257 (.tmp 0) 0) 0) rfl rfl hk (λτ=> ?_) h1).elim
   simp[execOp,dK,Act.eval,hx,Instr.fieldAt,Instr.sureAddr,go_sem]
   trivial
 all_goals
  refine(jJ (o:=dK (some 1) (.fieldAddr 257 (.tmp 0) 0) 0) rfl rfl hk (λτ=> ?_) h1).elim
  simp[execOp,dK,Act.eval,hx,Instr.fieldAt,Instr.sureAddr,go_sem]
  trivial
abbrev dG:Obj:=.cells #[.int .i32 0,.int .u32 0] 257
def zX(u:World)(r:Nat):Prop:=(∃c e f,u.heap[r]? =some (.cells c e f))\/(∃a t,u.heap[r]? =some (.view a t))\/∃o,u.heap[r]? =some o/\((∃a l,o=.number a l)\/Io o=true)
theorem VA{ad:Addr}(hk:b.kind≠ .early)(hT:6<=T.size)(h0:T.getD 0 undef=.pointer (some ad))(hr:zX u ad.block)(h:bf (ah H) tl R s0 (b.at ⟨T,[]⟩ [.code (fA x y)]) cs u):
  ∃v,(u.cell? ad=some v\/(u.cell? ad=none/\∃a t,u.heap[ad.block]? =some (.view a t)))/\bf (ah H) tl R s0 (b.at ⟨(T.setIfInBounds 1 (.pointer (some ad))).setIfInBounds 2 v,[]⟩ [.inRegion (zi x) [2],.code (ru y)]) cs u:=by
 have h1:=Vz h
 have hx:T[0]?.getD undef=.pointer (some ad):=by rw[<-h0];simp
 have ha:ad.add 0=ad:=by unfold Addr.add;simp
 have h2:bf (ah H) tl R s0 (b.at ⟨T.setIfInBounds 1 (.pointer (some ad)),[]⟩ [.inRegion (zi x) [1,2],.code (ru y)]) cs u:=
  jC (P:=(ah H)) (u:=u) (a:=⟨T,[]⟩) (o:=dK (some 1) (.fieldAddr 257 (.tmp 0) 0) 0) (v:=.pointer (some ad)) (es:= #[]) rfl rfl hk (Nat.le_refl _) (λτ=>by
   simp[execOp,dK,Act.eval,hx,Instr.fieldAt,Instr.sureAddr,go_sem,ha]) (λτ=>by
   unfold listed
   simp[execOp,dK,Act.eval,hx,Instr.fieldAt,Instr.sureAddr,go_sem,ha,seen_none]) h1
 have hx1:(T.setIfInBounds 1 (.pointer (some ad)))[1]?.getD undef=.pointer (some ad):=by simp[Array.getElem?_setIfInBounds,show 1<T.size by omega]
 have hcell:∀τ,(tp u τ).cell? ad=u.cell? ad:=λ_=>rfl
 cases hc:u.cell? ad with
 |some v=>
  refine⟨v,.inl rfl,?_⟩
  refine jC (P:=(ah H)) (u:=u) (a:=⟨T.setIfInBounds 1 (.pointer (some ad)),[]⟩) (o:=dK (some 2) (.load 21 (.tmp 1)) 21) (v:=v) (es:=seen (ah H) b.fn #[⟨.cell ad,false,false⟩]) rfl rfl hk (Nat.le_refl _) (λτ=> ?_) (λτ=> ?_) h2
  ·simp[execOp,dK,Act.eval,hx1,Instr.loadAt,Instr.sureAddr,go_sem,hcell,hc]
  ·unfold listed
   simp[execOp,dK,Act.eval,hx1,Instr.loadAt,Instr.sureAddr,go_sem,hcell,hc]
   rfl
 |none=>
  have o8:∀τ,(tp u τ).farLoad (ah H) ad (Mode.plain==Mode.atomic)=u.farLoad (ah H) ad (Mode.plain==Mode.atomic):=λτ=>lK _ _ _ _ τ
  cases hfl:u.farLoad (ah H) ad (Mode.plain==Mode.atomic)with
  |error e=>
   have hbad:cZ e:=by
    unfold World.farLoad at hfl
    rcases hr with⟨c,e',f,ho⟩|⟨a',t,ho⟩|⟨o,ho,hm⟩
    ·rw[ho]at hfl
     cases hfl
     simp[World.noCell,ho,cZ]
    ·rw[ho]at hfl
     dsimp only at hfl
     split at hfl
     ·cases hfl
     ·cases hfl;trivial
    ·rw[ho]at hfl
     rcases hm with⟨a',l,rfl⟩|hm
     ·cases hfl
      simp[World.noCell,ho,cZ]
     ·cases o<;>first|(cases hm;done)|(cases hfl;simp[World.noCell,ho,cZ])
   refine(jJ (o:=dK (some 2) (.load 21 (.tmp 1)) 21) rfl rfl hk (λτ=> ?_) h2).elim
   simp[execOp,dK,Act.eval,hx1,Instr.loadAt,Instr.sureAddr,go_sem,hcell,hc,o8,hfl]
   exact hbad
  |ok r=>
   have hv:∃a t,u.heap[ad.block]? =some (.view a t):=by
    unfold World.farLoad at hfl
    rcases hr with⟨c,e',f,ho⟩|⟨a',t,ho⟩|⟨o,ho,hm⟩
    ·rw[ho]at hfl;cases hfl
    ·exact⟨a',t,ho⟩
    ·rw[ho]at hfl
     rcases hm with⟨a',l,rfl⟩|hm
     ·cases hfl
     ·cases o<;>first|(cases hm;done)|cases hfl
   refine⟨r.1,.inr ⟨rfl,hv⟩,?_⟩
   refine jC (P:=(ah H)) (u:=u) (a:=⟨T.setIfInBounds 1 (.pointer (some ad)),[]⟩) (o:=dK (some 2) (.load 21 (.tmp 1)) 21) (v:=r.1) (es:=listed (ah H) b.fn ⟨T.setIfInBounds 1 (.pointer (some ad)),[]⟩ (dK (some 2) (.load 21 (.tmp 1)) 21) u) rfl rfl hk (Nat.le_refl _) (λτ=> ?_) (λτ=> ?_) h2
   ·simp[execOp,dK,Act.eval,hx1,Instr.loadAt,Instr.sureAddr,go_sem,hcell,hc,o8,hfl]
   ·unfold listed
    simp[execOp,dK,Act.eval,hx1,Instr.loadAt,Instr.sureAddr,go_sem,hcell,hc,o8,hfl]
theorem Zk{v:Value}(hx:x=0\/x=1)(hk:b.kind≠ .early)(hT:6<=T.size)(h2:T[2]?.getD undef=v)(h:bf (ah H) tl R s0 (b.at ⟨T,[]⟩ [.inRegion (zi x) [2],.code (ru y)]) cs u):
  v=.int .i32 x/\bf (ah H) tl R s0 (b.at ⟨T.setIfInBounds 3 (.bool true),[]⟩ [.code (xZ y)]) cs u:=by
 have hx3:∀t:Bool,(T.setIfInBounds 3 (.bool t))[3]?.getD undef=.bool t:=λt=>by simp[Array.getElem?_setIfInBounds,show 3<T.size by omega]
 have yields:∀t:Bool,(∀τ,(execOp (Act.eval ⟨T,[]⟩) (dK (some 3) (.binOp .eql 21 (.tmp 2) (.const (.int .i32 x)) 21) 4)).run (ah H) (tp u τ)=.ok (.value (.bool t)) (tp u τ))->(∀τ,(execOp (Act.eval ⟨T,[]⟩) (dK (some 3) (.binOp .eql 21 (.tmp 2) (.const (.int .i32 x)) 21) 4)).events (ah H) (tp u τ) #[]= #[])->t=true/\bf (ah H) tl R s0 (b.at ⟨T.setIfInBounds 3 (.bool true),[]⟩ [.code (xZ y)]) cs u:=by
  intro t ht hte
  have h3:bf (ah H) tl R s0 (b.at ⟨T.setIfInBounds 3 (.bool t),[]⟩ [.inRegion (zi x) [],.code (ru y)]) cs u:=
   jC (P:=(ah H)) (u:=u) (a:=⟨T,[]⟩) (o:=dK (some 3) (.binOp .eql 21 (.tmp 2) (.const (.int .i32 x)) 21) 4) (v:=.bool t) (es:= #[]) rfl rfl hk (Nat.le_refl _) ht (λτ=>by unfold listed;rw[hte τ,seen_none]) h
  have h4:=oI (c:=.tmp 3) (t:=t) (by simp[Act.eval,hx3]) (eY (dS h3))
  cases t with
  |true=>exact⟨rfl,oH h4⟩
  |false=>exact(nN h4).elim
 have hu:(ah H).underlying 21=some (.int .i32):=by rw[aB];exact Tryz.underlying21
 by_cases hv:isInt v=true
 ·cases v<;>first|(cases hv;done)|skip
  rename_i k n
  by_cases hk2:k=.i32
  ·subst hk2
   obtain⟨h5,h6⟩:=yields (decide (n=x)) (λτ=>by
    simp[execOp,dK,Act.eval,h2,go_sem]
    by_cases hh:n=x<;>simp[hh]) (λτ=>by simp[execOp,dK,Act.eval,h2,go_sem])
   exact⟨by rw[of_decide_eq_true h5],h6⟩
  ·refine(jJ (o:=dK (some 3) (.binOp .eql 21 (.tmp 2) (.const (.int .i32 x)) 21) 4) rfl rfl hk (λτ=> ?_) h).elim
   simp[execOp,dK,Act.eval,h2,go_sem,hk2,binOp]
   trivial
 ·have hv':isInt v=false:=by simpa using hv
  rcases Zj hu 9999 v hv' hx with⟨e,hb,he⟩|he
  ·refine(jJ (o:=dK (some 3) (.binOp .eql 21 (.tmp 2) (.const (.int .i32 x)) 21) 4) rfl rfl hk (λτ=> ?_) h).elim
   have h6:(Op.equalIn 10000 21 v (.int .i32 x)).run (ah H) (tp u τ)=.halt e (tp u τ):=he (tp u τ)
   simp[execOp,dK,Act.eval,h2,Gl,Gm _ v hv',Op.equal,Op.maxDepth]
   exact⟨e,hb,_,by rw[h6];rfl⟩
  ·obtain⟨h5,h6⟩:=yields false (λτ=>by
    have h6:(Op.equalIn 10000 21 v (.int .i32 x)).run (ah H) (tp u τ)=.ok false (tp u τ):=(he (tp u τ)).1
    simp[execOp,dK,Act.eval,h2,Gl,Gm _ v hv',Op.equal,Op.maxDepth]
    rw[h6]
    rfl) (λτ=>by
    have h6:(Op.equalIn 10000 21 v (.int .i32 x)).events (ah H) (tp u τ) #[]= #[]:=(he (tp u τ)).2
    simp[execOp,dK,Act.eval,h2,Gl,Gm _ v hv',Op.equal,Op.maxDepth]
    exact h6)
   cases h5
theorem rF{P:Program}{w:World}{ad q:Addr}(hq:w.heap[q.block]? =some dG)(hne:ad.block≠q.block){c:Array Value}{e:TypeId}{f:Nat×Nat}(hc:w.heap[ad.block]? =some (.cells c e f))(hs:c.size≠0):(sameAddr ad q).run P w=.ok false w/\(sameAddr ad q).events P w #[]= #[]:=by
 have hne':(ad.block==q.block)=false:=by simpa using hne
 have hfq:w.frozen? q=false:=by simp[World.frozen?,hq]
 have ae1:∀n,w.frozen? ⟨q.block,n,none⟩=false:=λn=>by simp[World.frozen?,hq]
 have hsa:w.shape? ad.block=some (e,c.size):=by simp[World.shape?,hc]
 have hsq:w.shape? q.block=some (257,2):=by simp[World.shape?,hq]
 obtain⟨m,hm⟩:∃m,c.size=m+1:=⟨c.size-1,by omega⟩
 constructor
 ·simp[sameAddr,hne',noView,viewAt,mayBeOne,stringish,hsa,hsq,hfq,ae1,hm,go_sem]
 ·simp[sameAddr,hne',noView,viewAt,mayBeOne,stringish,hsa,hsq,hfq,ae1,hm,go_sem]
theorem EL{P:Program}{w:World}{ad q:Addr}(hne:ad.block≠q.block){a:Addr}{t:TypeId}(hc:w.heap[ad.block]? =some (.view a t)):(sameAddr ad q).run P w=.halt (.unsupported (.unsafePointer "memory seen as another type")) w:=by
 have hne':(ad.block==q.block)=false:=by simpa using hne
 have hfa:w.frozen? ad=false:=by simp[World.frozen?,hc]
 have hsa:w.shape? ad.block=none:=by simp[World.shape?,hc]
 have hg:(getObj ad.block).run P w=.ok (.view a t) w:=by
  show Sem.run P (Sem.getObj ad.block _) w=_
  simp[Sem.run,hc]
 simp[sameAddr,hne',noView,viewAt,hsa,hfa,hc,hg,go_sem]
theorem uM(d:Nat)(a q:Addr)(w:World):(Op.equalIn (d+1) 274 (.pointer (some a)) (.pointer (some q))).run (ah H) w=(sameAddr a q).run (ah H) w/\(Op.equalIn (d+1) 274 (.pointer (some a)) (.pointer (some q))).events (ah H) w #[]=(sameAddr a q).events (ah H) w #[]:=by
 unfold Op.equalIn
 constructor
 ·simp[go_sem]
 ·simp[go_sem]
theorem VB{ad:Addr}{z:Int}(hk:b.kind≠ .early)(hT:6<=T.size)(h1:T[1]?.getD undef=.pointer (some ad))(hl:u.cell? ad=some (.int .i32 x)\/(u.cell? ad=none/\∃a t,u.heap[ad.block]? =some (.view a t)))(h:bf (ah H) tl R s0 (b.at ⟨T,[]⟩ [.code (xZ y)]) cs u):
  u.cell? ad=some (.int .i32 x)/\u.frozen? ad=false/\∃T',bf (ah H) tl R s0 {b.at ⟨T',[]⟩ [.code .ret]with mode:=.returning} cs ((u.alloc dG).setCell ad (.int .i32 y)):=by
 have h2:=dR (eY h)
 have hb:ad.block<u.heap.size:=by
  rcases hl with hl|⟨_,a,t,hl⟩
  ·unfold World.cell? at hl
   by_cases hlt:ad.block<u.heap.size
   ·exact hlt
   ·rw[Array.getElem?_eq_none (by omega)]at hl
    simp at hl
  ·exact(Array.getElem?_eq_some_iff.1 hl).1
 have hold:(u.alloc dG).heap[ad.block]? =u.heap[ad.block]? :=by
  show(u.heap.push _)[ad.block]? =_
  rw[Array.getElem?_push,if_neg (by omega)]
 have hnew:(u.alloc dG).heap[u.heap.size]? =some dG:=by
  show(u.heap.push _)[u.heap.size]? =_
  rw[Array.getElem?_push,if_pos rfl]
 have h3:bf (ah H) tl R s0 (b.at ⟨T.setIfInBounds 4 (.pointer (some ⟨u.heap.size,0,none⟩)),[]⟩ [.inRegion Jc [1],.code (.seq (.region 2 (EC y) false) .ret)]) cs (u.alloc dG):=
  jC (P:=(ah H)) (u:=u) (a:=⟨T,[]⟩) (o:=dK (some 4) (.alloc 257) 0) (v:=.pointer (some ⟨u.heap.size,0,none⟩)) (u2:=u.alloc dG) (es:= #[]) rfl rfl hk (show u.drawn<=(u.alloc dG).drawn from Nat.le_refl _) (λτ=>by
   simp[execOp,dK,go_sem]
   exact⟨rfl,rfl⟩) (λτ=>by
   unfold listed
   simp[execOp,dK,go_sem,seen_none]) h2
 have e1:(T.setIfInBounds 4 (.pointer (some ⟨u.heap.size,0,none⟩)))[1]?.getD undef=.pointer (some ad):=by rw[Array.getElem?_setIfInBounds_ne (by decide)];exact h1
 have e4:(T.setIfInBounds 4 (.pointer (some ⟨u.heap.size,0,none⟩)))[4]?.getD undef=.pointer (some ⟨u.heap.size,0,none⟩):=by simp[Array.getElem?_setIfInBounds,show 4<T.size by omega]
 generalize T.setIfInBounds 4 (.pointer (some ⟨u.heap.size,0,none⟩))=T4 at h3 e1 e4
 have hne:ad.block≠(⟨u.heap.size,0,none⟩:Addr).block:=by
  show ad.block≠u.heap.size
  omega
 rcases hl with hl|⟨_,a,t,hv⟩
 ·obtain⟨c,e,f,ho,hcs⟩:∃c e f,u.heap[ad.block]? =some (.cells c e f)/\c.size≠0:=by
   unfold World.cell? at hl
   cases ho:u.heap[ad.block]? with
   |none=>rw[ho]at hl;simp at hl
   |some o=>
    rw[ho]at hl
    cases o<;>first|(simp at hl;done)|skip
    rename_i c e f
    refine⟨c,e,f,rfl,λhz=> ?_⟩
    simp at hl
    have:=hl
    simp[Array.getElem?_eq_none (show c.size<=ad.off by omega)]at this
  have h4:bf (ah H) tl R s0 (b.at ⟨T4.setIfInBounds 5 (.bool false),[]⟩ [.inRegion Jc [],.code (.seq (.region 2 (EC y) false) .ret)]) cs (u.alloc dG):=
   jC (P:=(ah H)) (u:=u.alloc dG) (a:=⟨T4,[]⟩) (o:=dK (some 5) (.binOp .eql 274 (.tmp 1) (.tmp 4) 274) 4) (v:=.bool false) (u2:=u.alloc dG) (es:= #[]) rfl rfl hk (Nat.le_refl _) (λτ=>by
    have h6:(Op.equalIn 10000 274 (.pointer (some ad)) (.pointer (some ⟨u.heap.size,0,none⟩))).run (ah H) (tp (u.alloc dG) τ)=.ok false (tp (u.alloc dG) τ):=((uM 9999 _ _ _).1).trans (rF (w:=tp (u.alloc dG) τ) hnew hne (hold.trans ho) hcs).1
    simp[execOp,dK,Act.eval,e1,e4,go_sem,binOp,Op.equal,Op.maxDepth]
    rw[h6]
    rfl) (λτ=>by
    have h6:(Op.equalIn 10000 274 (.pointer (some ad)) (.pointer (some ⟨u.heap.size,0,none⟩))).events (ah H) (tp (u.alloc dG) τ) #[]= #[]:=((uM 9999 _ _ _).2).trans (rF (w:=tp (u.alloc dG) τ) hnew hne (hold.trans ho) hcs).2
    unfold listed
    simp[execOp,dK,Act.eval,e1,e4,go_sem,binOp,Op.equal,Op.maxDepth]
    rw[h6,seen_none]) h3
  have h5:=dR (eY (dS h4))
  have e1':(T4.setIfInBounds 5 (.bool false))[1]?.getD undef=.pointer (some ad):=by rw[Array.getElem?_setIfInBounds_ne (by decide)];exact e1
  generalize T4.setIfInBounds 5 (.bool false)=T5 at h5 e1'
  have hcell:∀τ,(tp (u.alloc dG) τ).cell? ad=some (.int .i32 x):=λτ=>by
   rw[<-hl]
   show(u.alloc dG).cell? ad=u.cell? ad
   unfold World.cell?
   rw[hold]
  have hfr:∀τ,(tp (u.alloc dG) τ).frozen? ad=u.frozen? ad:=λτ=>by
   show(u.alloc dG).frozen? ad=u.frozen? ad
   unfold World.frozen?
   rw[hold]
  cases hz:u.frozen? ad with
  |true=>
   refine(jJ (o:=dK none (.store 21 (.tmp 1) (.const (.int .i32 y))) 0) rfl rfl hk (λτ=> ?_) h5).elim
   simp[execOp,dK,Act.eval,e1',Instr.storeAt,Instr.sureAddr,go_sem,hcell,hfr,hz]
   trivial
  |false=>
   refine⟨hl,rfl,T5,?_⟩
   have h7:bf (ah H) tl R s0 (b.at ⟨T5,[]⟩ [.inRegion (EC y) [],.code .ret]) cs ((u.alloc dG).setCell ad (.int .i32 y)):=
    RH (P:=(ah H)) (u:=u.alloc dG) (a:=⟨T5,[]⟩) (o:=dK none (.store 21 (.tmp 1) (.const (.int .i32 y))) 0) (u2:=(u.alloc dG).setCell ad (.int .i32 y)) (es:=seen (ah H) b.fn #[⟨.cell ad,true,false⟩]) rfl rfl hk (Nat.le_refl _) (λτ=>by
     simp[execOp,dK,Act.eval,e1',Instr.storeAt,Instr.sureAddr,go_sem,hcell,hfr,hz]
     first|rfl|(unfold World.setCell;dsimp only;split<;>rfl)) (λτ=>by
     unfold listed
     simp[execOp,dK,Act.eval,e1',Instr.storeAt,Instr.sureAddr,go_sem,storedEv,hcell,hfr,hz]
     first|done|rfl|trace_state) h5
   exact Ju (dS h7)
 ·refine(jJ (o:=dK (some 5) (.binOp .eql 274 (.tmp 1) (.tmp 4) 274) 4) rfl rfl hk (λτ=> ?_) h3).elim
  have h6:(Op.equalIn 10000 274 (.pointer (some ad)) (.pointer (some ⟨u.heap.size,0,none⟩))).run (ah H) (tp (u.alloc dG) τ)=.halt (.unsupported (.unsafePointer "memory seen as another type")) (tp (u.alloc dG) τ):=((uM 9999 _ _ _).1).trans (EL hne (hold.trans hv))
  simp[execOp,dK,Act.eval,e1,e4,go_sem,binOp,Op.equal,Op.maxDepth]
  exact⟨.unsupported (.unsafePointer "memory seen as another type"),trivial,_,by rw[h6];rfl⟩
theorem Jw(hx:x=0\/x=1)(hk:b.kind≠ .early)(hT:6<=T.size)(hr:∀ad,T.getD 0 undef=.pointer (some ad)->zX u ad.block)(h:bf (ah H) tl R s0 (b.at ⟨T,[]⟩ [.code (fA x y)]) cs u):
  ∃ad,T.getD 0 undef=.pointer (some ad)/\u.cell? ad=some (.int .i32 x)/\u.frozen? ad=false/\∃T',bf (ah H) tl R s0 {b.at ⟨T',[]⟩ [.code .ret]with mode:=.returning} cs ((u.alloc dG).setCell ad (.int .i32 y)):=by
 obtain⟨ad,had⟩:=RJ hk rfl h
 obtain⟨v,hv,h1⟩:=VA hk hT had (hr ad had) h
 have e1:((T.setIfInBounds 1 (.pointer (some ad))).setIfInBounds 2 v)[1]?.getD undef=.pointer (some ad):=by
  rw[Array.getElem?_setIfInBounds_ne (by decide)]
  simp[Array.getElem?_setIfInBounds,show 1<T.size by omega]
 have e2:((T.setIfInBounds 1 (.pointer (some ad))).setIfInBounds 2 v)[2]?.getD undef=v:=by simp[Array.getElem?_setIfInBounds,show 2<T.size by omega]
 have hs:6<=((T.setIfInBounds 1 (.pointer (some ad))).setIfInBounds 2 v).size:=by simpa using hT
 generalize(T.setIfInBounds 1 (.pointer (some ad))).setIfInBounds 2 v=T2 at h1 e1 e2 hs
 obtain⟨rfl,h2⟩:=Zk hx hk hs e2 h1
 obtain⟨h3,h4,T',h5⟩:=VB (x:=x) (z:=0) hk (T:=T2.setIfInBounds 3 (.bool true)) (by simpa using hs) (by rw[Array.getElem?_setIfInBounds_ne (by decide)];exact e1) hv h2
 exact⟨ad,had,h3,h4,T',h5⟩
end
end Go.Proofs.YtlncengggmgdgaaGreat.par
