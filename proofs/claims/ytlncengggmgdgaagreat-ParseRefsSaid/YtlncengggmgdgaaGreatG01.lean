/- Which code the relation serves, and how the lone program's is like the crowd's. No conditions. -/
import Derived.Calls
import Derived.Test.YtlncengggmgdgaaGreatProg
set_option linter.unusedVariables false
set_option linter.unusedSimpArgs false
namespace Go.Proofs.YtlncengggmgdgaaGreat.par
open Go
def nd(f:FuncId):Bool:=f==122
def kD:Value->Bool
 | .bool _| .int .. | .float .. | .complex .. | .string _| .pointer none| .slice none .. | .map none| .chan none| .nilFunc| .nilIface=>true
 | .tuple vs=>vs.isEmpty
 | .func (.func k) f c=> !nd k&&(f.isEmpty&&c.isEmpty)
 |_=>false
def LD:Value->Bool
 | .agg cs=>cs.all kD
 | .tuple cs=>cs.all kD
 |v=>kD v
def UJ(T:Tables)(t:TypeId):Option TypeDesc:=Program.underlying (⟨T,#[]⟩:Program) t
def LG(T:Tables)(src dst:TypeId):Bool:=
 match UJ T src,UJ T dst with
 |some (.int _),some (.int _)=>true
 |some .string,some .string=>true
 |some .string,some (.slice e)=>match UJ T e with|some (.int .u8)=>true|_=>false
 |some (.slice e),some .string=>match UJ T e with|some (.int .u8)=>true|_=>false
 |some (.pointer _),some .unsafePointer=>true
 |some .unsafePointer,some (.pointer _)=>true
 |_,_=>false
def dZ:Operand->Bool
 | .tmp _=>true
 | .const v=>LD v
 | .global _=>false
 | .func f=> !nd f
def UK:Operand->Bool
 | .func _=>true
 |x=>dZ x
def okB:Builtin->Bool
 | .append| .cap| .copy| .len| .min| .unsafeSliceData| .unsafeString| .recover=>true
 |_=>false
def isRec:Builtin->Bool
 | .recover=>true
 |_=>false
def YP:Operand->Nat->Bool
 | .func f,n=> !nd f||n==2
 |_,_=>true
def xQ(c:Call):Bool:=
 c.args.all dZ&&match c.callee with
 | .value f=>UK f&&YP f c.args.size
 | .builtin b=>okB b
 | .invoke _ _=>false
def abJ(c:Call):Bool:=
 match c.callee with
 | .value f=>dZ f
 | .builtin b=> !isRec b
 |_=>true
def aeT:Fn->Bool
 | .func f=> !nd f
 |_=>false
def UL:Op->Bool
 | .panic x=>dZ x
 |_=>false
def vF(T:Tables):Op->Bool
 | .move x| .assign x| .box _ x| .load _ x| .unOp _ _ x| .makeInterface _ x| .fieldAddr _ x _| .field _ x _| .extract x _=>dZ x
 | .pick c a b=>dZ c&&dZ a&&dZ b
 | .alloc _=>true
 | .build _ ps| .buildSlice _ _ ps=>ps.all λp=>dZ p.2
 | .store _ a x| .binOp _ _ a x _| .makeSlice _ a x| .indexAddr _ a x| .index _ a x=>dZ a&&dZ x
 | .nilCheck x=>dZ x
 | .convert s d x=>LG T s d&&dZ x
 | .makeFunc fn a b=>aeT fn&&a.all dZ&&b.all dZ
 | .slice _ x l h m=>dZ x&&l.all dZ&&h.all dZ&&m.all dZ
 | .call c=>xQ c
 | .defer c=>xQ c&&abJ c
 | .typeAssert x _ _ ok=>ok&&dZ x
 |_=>false
def UM:Op->Bool
 | .defer _=>false
 | .call c=>match c.callee with| .builtin b=> !isRec b|_=>true
 |_=>true
noncomputable def vG:Tables:=(Tryz.prog).toTables
noncomputable def AB:Nat:=(Tryz.prog).funcs.size
theorem YQ:(Tryz.prog).toTables=vG:=rfl
theorem FP:(Tryz.prog).funcs.size=AB:=rfl
attribute [irreducible] vG AB
def AO(T:Tables)(q:Prop)(rd:Bool)(o:Oper):Prop:=(vF T o.op=true\/(q/\UL o.op=true))/\(rd=true->UM o.op=true)
inductive dQ(T:Tables):Prop->Bool->Code->Code->Prop
 |refuse {q:Prop} {rd:Bool} (why:String) (c:Code):dQ T q rd (.refuse why) c
 |skip {q:Prop} {rd:Bool}:dQ T q rd .skip .skip
 |ret {q:Prop} {rd:Bool}:dQ T q rd .ret .ret
 |label {q:Prop} {rd:Bool} (l:Nat):dQ T q rd (.label l) (.label l)
 |exit {q:Prop} {rd:Bool} (id:Nat):dQ T q rd (.exit id) (.exit id)
 |region {q:Prop} {rd:Bool} (id:Nat) {ops:Array Oper} (draw:Bool) (h:∀o∈ops,AO T q rd o):dQ T q rd (.region id ops draw) (.region id ops draw)
 |seq {q:Prop} {rd:Bool} {a b a' b':Code} (h:dQ T q rd a a') (k:dQ T q rd b b'):dQ T q rd (.seq a b) (.seq a' b')
 |cond {q:Prop} {rd:Bool} {c:Operand} (hc:dZ c=true) {a b a' b':Code} (h:dQ T q rd a a') (k:dQ T q rd b b'):dQ T q rd (.cond c a b) (.cond c a' b')
 |block {q:Prop} {rd:Bool} (id:Nat) {a a':Code} (h:dQ T q rd a a'):dQ T q rd (.block id a) (.block id a')
 |loop {q:Prop} {rd:Bool} {a a':Code} (h:dQ T q rd a a'):dQ T q rd (.loop a) (.loop a')
 |scope {q:Prop} {rd:Bool} {a a':Code} (h:dQ T q rd a a'):dQ T q rd (.scope a) (.scope a')
 |rangeFunc {q:Prop} {rd:Bool} {f:Operand} (hf:dZ f=true) (ps:Array Tmp) {a a' b b':Code} (h:dQ T False true a a') (k:dQ T False true b b'):dQ T q rd (.rangeFunc f ps a b) (.rangeFunc f ps a' b')
theorem AO.mono{T:Tables}{q q2:Prop}{rd rd2:Bool}{o:Oper}(h:AO T q rd o)(hq:q->q2)(hr:rd2=true->rd=true):AO T q2 rd2 o:=⟨h.1.imp id λx=>⟨hq x.1,x.2⟩,λe=>h.2 (hr e)⟩
theorem dQ.mono{T:Tables}{q q2:Prop}{rd rd2:Bool}{a a':Code}(h:dQ T q rd a a')(hq:q->q2)(hr:rd2=true->rd=true):dQ T q2 rd2 a a':=by
 induction h with
 |refuse w c=>exact .refuse w c
 |skip=>exact .skip
 |ret=>exact .ret
 |label l=>exact .label l
 |exit l=>exact .exit l
 |region id dr h=>exact .region id dr λo ho=>(h o ho).mono hq hr
 |seq _ _ h k=>exact .seq (h hq hr) (k hq hr)
 |cond hc _ _ h k=>exact .cond hc (h hq hr) (k hq hr)
 |block id _ h=>exact .block id (h hq hr)
 |loop _ h=>exact .loop (h hq hr)
 |scope _ h=>exact .scope (h hq hr)
 |rangeFunc hf ps h k=>exact .rangeFunc hf ps h k
inductive AP:Option Code->Option Code->Prop
 |none:AP none none
 |some {c c':Code} (h:∀(T:Tables)(q:Prop)(rd:Bool),dQ T q rd c c'):AP (some c) (some c')
end Go.Proofs.YtlncengggmgdgaaGreat.par
namespace Go.Proofs.YtlncengggmgdgaaGreat.par
open Go
def Io:Obj->Bool
 | .loop _| .deferred _=>true
 |_=>false
def AQ{α β:Type}(R:α->β->Prop)(xs:Array α)(ys:Array β):Prop:=xs.size=ys.size/\∀(i:Nat)(x:α)(y:β),xs[i]? =some x->ys[i]? =some y->R x y
def UN:Value->Bool
 | .agg _=>false
 | .bool _=>false
 | .nilIface=>false
 | .nilFunc=>false
 | .pointer none=>false
 | .func (.method _) _ _=>false
 |_=>true
def UC:TypeId:=0
def DV:Value->Bool
 | .tuple _| .agg _=>true
 |_=>false
section
variable (σ : Nat → Nat) (D : Nat → Prop)
def AR(a a':Addr):Prop:=D a.block/\a'={a with block:=σ a.block}
inductive VR:Value->Value->Prop
 |undef (v:Value) (h:UN v=true):VR (.tuple #[]) v
 |bool (b:Bool):VR (.bool b) (.bool b)
 |int (k:IntKind) (n:Int):VR (.int k n) (.int k n)
 |float (k:FloatKind) (n:Nat):VR (.float k n) (.float k n)
 |complex (k:FloatKind) (n m:Nat):VR (.complex k n m) (.complex k n m)
 |string (s:ByteArray):VR (.string s) (.string s)
 |bT:VR (.pointer none) (.pointer none)
 |ptr {a a':Addr} (h:AR σ D a a'):VR (.pointer (some a)) (.pointer (some a'))
 |fK (l c:Nat):VR (.slice none l c) (.slice none l c)
 |slice {a a':Addr} (h:AR σ D a a') (l c:Nat):VR (.slice (some a) l c) (.slice (some a') l c)
 |jy:VR (.map none) (.map none)
 |map {r:Nat} (h:D r):VR (.map (some r)) (.map (some (σ r)))
 |jg:VR (.chan none) (.chan none)
 |func (fn:FuncId) {f f' c c':Array Value} (h1:f.size=f'.size) (h2:∀(i:Nat)(x y:Value),f[i]? =some x->f'[i]? =some y->VR x y)
   (h3:c.size=c'.size) (h4:∀(i:Nat)(x y:Value),c[i]? =some x->c'[i]? =some y->VR x y) (h0:nd fn=false):VR (.func (.func fn) f c) (.func (.func fn) f' c')
 |yield {l:Nat} (h:D l):VR (.func (.yield l) #[] #[]) (.func (.yield (σ l)) #[] #[])
 |weird (m:String) (f c:Array Value):VR (.func (.method "") #[.iface UC (.tuple #[.func (.method m) f c])] #[]) (.func (.method m) f c)
 |jh:VR .nilFunc .nilFunc
 |iface (t:TypeId) {v v':Value} (h:VR v v'):VR (.iface t v) (.iface t v')
 |iH:VR .nilIface .nilIface
 |agg {c c':Array Value} (h1:c.size=c'.size) (h2:∀(i:Nat)(x y:Value),c[i]? =some x->c'[i]? =some y->VR x y):VR (.agg c) (.agg c')
 |tuple {c c':Array Value} (h1:c.size=c'.size) (h2:∀(i:Nat)(x y:Value),c[i]? =some x->c'[i]? =some y->VR x y):VR (.tuple c) (.tuple c')
abbrev dI:=AQ (VR σ D)
inductive OR:Obj->Obj->Prop
 |cells {c c':Array Value} (h:dI σ D c c') (e:TypeId) (f:Nat×Nat):OR (.cells c e f) (.cells c' e f)
 |view {a a':Addr} (h:AR σ D a a') (t:TypeId):OR (.view a t) (.view a' t)
 |number {a a':Addr} (h:AR σ D a a') (lost:Bool):OR (.number a lost) (.number a' lost)
 |loop {r r':Loop} (hs:r.state=r'.state) (hp:AP r.pending r'.pending) (hf:r.fn=r'.fn) (hn:r.fn<AB) (ht:dI σ D r.tmps r'.tmps) (hq:r.params=r'.params) (ha:dQ vG False true r.assign r'.assign) (hb:dQ vG False true r.body r'.body) (hd:D r.defers) (he:r'.defers=σ r.defers):OR (.loop r) (.loop r')
 |xR:OR (.deferred none) (.deferred none)
 |sF:OR (.deferred (some [])) (.deferred (some []))
inductive MR:Mark->Mark->Prop
 |acquire {a a':Addr} (h:AR σ D a a'):MR (.acquire a) (.acquire a')
 |release {a a':Addr} (h:AR σ D a a'):MR (.release a) (.release a')
 |releaseMerge {a a':Addr} (h:AR σ D a a'):MR (.releaseMerge a) (.releaseMerge a')
 |extern (f:FuncId):MR (.extern f) (.extern f)
 |noRoom:MR .noRoom .noRoom
end
def cZ:Halt->Prop
 | .stuck _=>True
 | .unsupported (.initOrder _)=>False
 | .unsupported _=>True
 |_=>False
inductive Dead{α:Type}:Sem α->Prop
 |halt {h:Halt} (hb:cZ h):Dead (.halt h)
 |shape {r:Nat} {k:Option (TypeId×Nat)->Sem α} (h:∀s,Dead (k s)):Dead (.shape r k)
 |frozen {a:Addr} {k:Bool->Sem α} (h:∀b,Dead (k b)):Dead (.frozen a k)
 |choose {q:Question} {k:Nat->Sem α} (h:∀n,Dead (k n)):Dead (.choose q k)
 |program {k:Program->Sem α} (h:∀p,Dead (k p)):Dead (.program k)
 |mark {m:Mark} {k:Sem α} (h:Dead k):Dead (.mark m k)
section
variable (σ : Nat → Nat) (D : Nat → Prop) (P' P : Program)
inductive ay{α β:Type}(R:α->β->Prop):Sem α->Sem β->Prop
 |pure {a:α} {b:β} (h:R a b):ay R (.pure a) (.pure b)
 |load {m:Mode} {a a':Addr} {k:Value->Sem α} {k':Value->Sem β} (h:AR σ D a a') (hk:∀v v',VR σ D v v'->ay R (k v) (k' v')):ay R (.load m a k) (.load m a' k')
 |store {m:Mode} {a a':Addr} {v v':Value} {k:Sem α} {k':Sem β} (h:AR σ D a a') (hv:VR σ D v v') (hk:ay R k k'):ay R (.store m a v k) (.store m a' v' k')
 |new {o o':Obj} {k:Nat->Sem α} {k':Nat->Sem β} (h:OR σ D o o') (hk:∀r,D r->ay R (k r) (k' (σ r))):ay R (.new o k) (.new o' k')
 |shape {r:Nat} {k:Option (TypeId×Nat)->Sem α} {k':Option (TypeId×Nat)->Sem β} (h:D r) (hk:∀s,ay R (k s) (k' s)):ay R (.shape r k) (.shape (σ r) k')
 |freeze {a a':Addr} {n:Nat} {k:Sem α} {k':Sem β} (h:AR σ D a a') (hk:ay R k k'):ay R (.freeze a n k) (.freeze a' n k')
 |frozen {a a':Addr} {k:Bool->Sem α} {k':Bool->Sem β} (h:AR σ D a a') (hk:∀b,ay R (k b) (k' b)):ay R (.frozen a k) (.frozen a' k')
 |getObj {r:Nat} {k:Obj->Sem α} {k':Obj->Sem β} (h:D r) (hk:∀o o',OR σ D o o'->ay R (k o) (k' o')):ay R (.getObj r k) (.getObj (σ r) k')
 |setObj {r:Nat} {o o':Obj} {k:Sem α} {k':Sem β} (h:D r) (ho:OR σ D o o') (hm:Io o=true) (hk:ay R k k'):ay R (.setObj r o k) (.setObj (σ r) o' k')
 |choose {q:Question} {k:Nat->Sem α} {k':Nat->Sem β} (hk:∀n,ay R (k n) (k' n)):ay R (.choose q k) (.choose q k')
 |program {k:Program->Sem α} {k':Program->Sem β} (hk:ay R (k P') (k' P)):ay R (.program k) (.program k')
 |uq {k:Program->Sem α} {s':Sem β} (hk:ay R (k P') s'):ay R (.program k) s'
 |mark {m m':Mark} {k:Sem α} {k':Sem β} (h:MR σ D m m') (hk:ay R k k'):ay R (.mark m k) (.mark m' k')
 |panic {v v':Value} (h:VR σ D v v'):ay R (.halt (.panic v)) (.halt (.panic v'))
 |dead {s:Sem α} {s':Sem β} (h:Dead s):ay R s s'
end
theorem Dead.bind{α γ:Type}{s:Sem α}(h:Dead s)(f:α->Sem γ):Dead (s.bind f):=by
 induction h with
 |halt hb=>exact .halt hb
 |shape _ ih=>exact .shape ih
 |frozen _ ih=>exact .frozen ih
 |choose _ ih=>exact .choose ih
 |program _ ih=>exact .program ih
 |mark _ ih=>exact .mark ih
section
variable {σ : Nat → Nat} {D : Nat → Prop} {P' P : Program}
theorem ay.bind{α β γ δ:Type}{R:α->β->Prop}{S:γ->δ->Prop}{s:Sem α}{s':Sem β}{f:α->Sem γ}{f':β->Sem δ}(h:ay σ D P' P R s s')(hf:∀a b,R a b->ay σ D P' P S (f a) (f' b)):
  ay σ D P' P S (s>>=f) (s'>>=f'):=by
 show ay σ D P' P S (s.bind f) (s'.bind f')
 induction h with
 |pure h=>exact hf _ _ h
 |load h _ ih=>exact .load h ih
 |store h hv _ ih=>exact .store h hv ih
 |new h _ ih=>exact .new h ih
 |shape h _ ih=>exact .shape h ih
 |freeze h _ ih=>exact .freeze h ih
 |frozen h _ ih=>exact .frozen h ih
 |getObj h _ ih=>exact .getObj h ih
 |setObj h ho hm _ ih=>exact .setObj h ho hm ih
 |choose _ ih=>exact .choose ih
 |program _ ih=>exact .program ih
 |uq _ ih=>exact .uq ih
 |mark h _ ih=>exact .mark h ih
 |panic h=>exact .panic h
 |dead h=>exact .dead (h.bind f)
theorem ay.mono{α β:Type}{R S:α->β->Prop}{s:Sem α}{s':Sem β}(h:ay σ D P' P R s s')(hf:∀a b,R a b->S a b):ay σ D P' P S s s':=by
 induction h with
 |pure h=>exact .pure (hf _ _ h)
 |load h _ ih=>exact .load h ih
 |store h hv _ ih=>exact .store h hv ih
 |new h _ ih=>exact .new h ih
 |shape h _ ih=>exact .shape h ih
 |freeze h _ ih=>exact .freeze h ih
 |frozen h _ ih=>exact .frozen h ih
 |getObj h _ ih=>exact .getObj h ih
 |setObj h ho hm _ ih=>exact .setObj h ho hm ih
 |choose _ ih=>exact .choose ih
 |program _ ih=>exact .program ih
 |uq _ ih=>exact .uq ih
 |mark h _ ih=>exact .mark h ih
 |panic h=>exact .panic h
 |dead h=>exact .dead h
end
end Go.Proofs.YtlncengggmgdgaaGreat.par
namespace Go.Proofs.YtlncengggmgdgaaGreat.par
open Go
def qN{α:Type}:Result α->World
 | .ok _ w=>w
 | .halt _ w=>w
structure fD(w w':World):Prop where
 size:w.heap.size<=w'.heap.size
 drawn:w.drawn<=w'.drawn
 tape:w'.tape=w.tape
theorem fD.refl(w:World):fD w w:=⟨Nat.le_refl _,Nat.le_refl _,rfl⟩
theorem fD.trans{a b c:World}(h:fD a b)(k:fD b c):fD a c:=⟨Nat.le_trans h.size k.size,Nat.le_trans h.drawn k.drawn,k.tape.trans h.tape⟩
theorem QK{α:Type}(a:Ask α):∀(w:World),fD w (w.ask a).2:=by
 induction a with
 |done a=>intro w;exact fD.refl w
 |ask what range k ih=>
  intro w
  unfold World.ask
  dsimp only
  split
  ·exact ih _ w
  ·have h1:fD w {w with drawn:=w.drawn+1}:=⟨Nat.le_refl _,Nat.le_succ _,rfl⟩
   exact h1.trans (ih _ _)
theorem QL(w:World)(c:Sys):fD w (w.sys c).2:=by
 have h:=QK (Kernel.perform c w.os) w
 unfold World.sys
 revert h
 rcases hx:w.ask (Kernel.perform c w.os)with⟨⟨r,os⟩,w1⟩
 intro h
 cases r<;>first|exact fD.refl w|exact⟨h.size,h.drawn,h.tape⟩
theorem zS{p:Program}{w:World}{a:Addr}{u:TypeId}{k:Addr}{v:Value}{at':Bool}{r:World×List Addr}(h:w.viewStore p a u k v at'=.ok r):fD w r.1:=by
 unfold World.viewStore at h
 simp only[bind,Except.bind,pure,Except.pure,throw,throwThe,MonadExceptOf.throw]at h
 repeat' (split at h<;>try (cases h;done))
 all_goals first
  |(cases h;exact⟨by simp,Nat.le_refl _,rfl⟩)
  |(simp at h)
theorem AU{p:Program}{w:World}{a:Addr}{v:Value}{at':Bool}{r:World×List Addr}(h:w.farStore p a v at'=.ok r):fD w r.1:=by
 unfold World.farStore at h
 split at h
 ·split at h
  ·rename_i hr
   cases h
   exact zS hr
  ·cases h
 ·cases h
theorem uw(w:World)(a:Addr)(v:Value):fD w (w.setCell a v):=⟨by simp[World.setCell],Nat.le_refl _,rfl⟩
theorem vH(w:World)(a:Addr)(n:Nat):fD w (w.freeze a n):=by
 unfold World.freeze
 split
 ·exact fD.refl w
 ·exact⟨by simp,Nat.le_refl _,rfl⟩
theorem gY{α:Type}(p:Program)(s:Sem α):∀(w:World)(es:Array Event),fD w (qN (s.runT p w es).1):=by
 induction s with
 |pure a=>intro w es;exact fD.refl w
 |load m a k ih=>
  intro w es
  simp only[Sem.runT]
  split
  ·exact ih _ _ _
  ·split
   ·exact ih _ _ _
   ·exact fD.refl w
 |store m a v k ih=>
  intro w es
  have key:∀(r:Result α×Array Event),r=(match w.cell? a with
   |some _=>if w.frozen? a then(.halt (.unsupported (.unsafePointer "a write to bytes that a string shares")) w,es)else k.runT p (w.setCell a v) (es.push ⟨.cell a,true,m== .atomic⟩)
   |none=>match w.farStore p a v (m== .atomic)with
    | .ok (w,touched)=>k.runT p w (es++touched.toArray.map (⟨.cell ·,true,m== .atomic⟩))
    | .error h=>(.halt h w,es))->fD w (qN r.1):=by
   intro r hr
   subst hr
   split
   ·split
    ·exact fD.refl w
    ·exact(uw w a v).trans (ih _ _)
   ·split
    ·rename_i hf
     exact(AU hf).trans (ih _ _)
    ·exact fD.refl w
  cases v<;>first|exact fD.refl w|exact key _ rfl
 |new o k ih=>
  intro w es
  have h1:fD w {w with heap:=w.heap.push o}:=⟨by simp,Nat.le_refl _,rfl⟩
  exact h1.trans (ih _ _ _)
 |shape r k ih=>intro w es;exact ih _ _ _
 |freeze a n k ih=>intro w es;exact(vH w a n).trans (ih _ _)
 |frozen a k ih=>intro w es;exact ih _ _ _
 |getObj r k ih=>
  intro w es
  simp only[Sem.runT]
  split
  ·exact fD.refl w
  ·exact ih _ _ _
  ·exact fD.refl w
 |setObj r o k ih=>
  intro w es
  simp only[Sem.runT]
  split
  ·exact fD.refl w
  ·have h1:fD w {w with heap:=w.heap.setIfInBounds r o}:=⟨by simp,Nat.le_refl _,rfl⟩
   exact h1.trans (ih _ _)
  ·exact fD.refl w
 |choose q k ih=>
  intro w es
  simp only[Sem.runT]
  split
  ·exact ih _ _ _
  ·have h1:fD w {w with drawn:=w.drawn+1}:=⟨Nat.le_refl _,Nat.le_succ _,rfl⟩
   exact h1.trans (ih _ _ _)
 |sys c k ih=>intro w es;exact(QL w c).trans (ih _ _ _)
 |program k ih=>intro w es;exact ih _ _ _
 |mark m k ih=>intro w es;exact ih _ _
 |halt h=>intro w es;exact fD.refl w
section
variable (σ : Nat → Nat) (D : Nat → Prop) (W0 : World)
structure WR(u w:World):Prop where
 obj:∀r o,D r->u.heap[r]? =some o->∃o',w.heap[σ r]? =some o'/\OR σ D o o'
 YR:∀r,D r->u.heap.size<=r->w.heap.size<=σ r
 low:W0.heap.size<=u.heap.size
 orig:∀(a:Addr),D a.block->a.block<W0.heap.size->∀z,DV z=true->u.cell? a=some z->w.cell? {a with block:=σ a.block}=W0.cell? a
 os:u.os=w.os
structure Turned(u w u' w':World):Prop where
 lone:fD u u'
 tape:w'.tape=w.tape
 os:w'.os=w.os
 output:w'.output=w.output
 size:w'.heap.size+u.heap.size=w.heap.size+u'.heap.size
 drawn:w'.drawn+u.drawn=w.drawn+u'.drawn
 kept:∀b,b<w.heap.size->(∀r,D r->r<u.heap.size->σ r≠b)->w'.heap[b]? =w.heap[b]?
def uf(e:Event):Prop:=
 match e.loc with
 | .cell a=>∃r,D r/\a.block=σ r
 | .obj b=>∃r,D r/\b=σ r
 | .mark m=>∃m',MR σ D m' m
 |_=>False
end
section
variable {σ : Nat → Nat} {D : Nat → Prop} {W0 : World}
theorem Turned.refl(u w:World):Turned σ D u w u w:=⟨fD.refl u,rfl,rfl,rfl,rfl,rfl,λ_ _ _=>rfl⟩
theorem Turned.trans{u w u1 w1 u2 w2:World}(h:Turned σ D u w u1 w1)(k:Turned σ D u1 w1 u2 w2)(hn:∀r,u.heap.size<=r->r<u1.heap.size->w.heap.size<=σ r):Turned σ D u w u2 w2:=by
 have a1:=h.lone.size
 have a2:=h.size
 have a3:=k.size
 have a4:=h.drawn
 have a5:=k.drawn
 refine⟨h.lone.trans k.lone,k.tape.trans h.tape,k.os.trans h.os,k.output.trans h.output,by omega,by omega,λb hb hr=> ?_⟩
 rw[k.kept b (by omega) (λr hd hlt e=> ?_),h.kept b hb hr]
 by_cases hlt2:r<u.heap.size
 ·exact hr r hd hlt2 e
 ·have:=hn r (by omega) hlt
  omega
theorem AQ.get{α β:Type}{R:α->β->Prop}{xs:Array α}{ys:Array β}(h:AQ R xs ys){i:Nat}{x:α}(hx:xs[i]? =some x):∃y,ys[i]? =some y/\R x y:=by
 have hi:i<xs.size:=(Array.getElem?_eq_some_iff.1 hx).1
 have hi':i<ys.size:=by rw[<-h.1];exact hi
 exact⟨ys[i],Array.getElem?_eq_getElem hi',h.2 i x _ hx (Array.getElem?_eq_getElem hi')⟩
theorem AQ.push{α β:Type}{R:α->β->Prop}{xs:Array α}{ys:Array β}(h:AQ R xs ys){x:α}{y:β}(hx:R x y):AQ R (xs.push x) (ys.push y):=by
 refine⟨by simp[h.1],λi a b ha hb=> ?_⟩
 rw[Array.getElem?_push]at ha hb
 rw[h.1]at ha
 split at ha<;>rename_i hi
 ·rw[if_pos hi]at hb
  cases ha;cases hb;exact hx
 ·rw[if_neg hi]at hb
  exact h.2 i a b ha hb
theorem AQ.set{α β:Type}{R:α->β->Prop}{xs:Array α}{ys:Array β}(h:AQ R xs ys){j:Nat}{x:α}{y:β}(hx:R x y):AQ R (xs.setIfInBounds j x) (ys.setIfInBounds j y):=by
 refine⟨by simp[h.1],λi a b ha hb=> ?_⟩
 rw[Array.getElem?_setIfInBounds]at ha hb
 split at ha<;>rename_i hi
 ·rw[if_pos hi]at hb
  split at ha<;>rename_i hj
  ·split at hb
   ·cases ha;cases hb;exact hx
   ·cases hb
  ·cases ha
 ·rw[if_neg hi]at hb
  exact h.2 i a b ha hb
theorem WR.cell{u w:World}(h:WR σ D W0 u w){a a':Addr}(ha:AR σ D a a'){v:Value}(hc:u.cell? a=some v):∃v',w.cell? a'=some v'/\VR σ D v v':=by
 obtain⟨hd,rfl⟩:=ha
 unfold World.cell? at hc
 split at hc
 ·rename_i c e f ho
  obtain⟨o',ho',hr⟩:=h.obj _ _ hd ho
  cases hr with
  |cells hv e f=>
  split at hc
  ·cases hc
  ·rename_i hs
   obtain⟨v',hv',hvr⟩:=hv.get hc
   refine⟨v',?_,hvr⟩
   unfold World.cell?
   dsimp only
   rw[ho']
   simp only[hs]
   exact hv'
 ·cases hc
theorem WR.vI{u w:World}(h:WR σ D W0 u w){r:Nat}(hd:D r){o:Obj}(ho:u.heap[r]? =some o):(∃c e f,o=.cells c e f)\/(∃a a' t,o=.view a t/\w.heap[σ r]? =some (.view a' t)/\AR σ D a a')\/(∃a a' l,o=.number a l/\w.heap[σ r]? =some (.number a' l)/\AR σ D a a')\/∃o',Io o=true/\Io o'=true/\w.heap[σ r]? =some o'/\OR σ D o o':=by
 obtain⟨o',h',hr⟩:=h.obj _ _ hd ho
 have hr2:=hr
 cases hr with
 |cells _ e f=>exact .inl ⟨_,e,f,rfl⟩
 |view ha t=>exact .inr (.inl ⟨_,_,t,rfl,h',ha⟩)
 |number ha t=>exact .inr (.inr (.inl ⟨_,_,t,rfl,h',ha⟩))
 |_=>exact .inr (.inr (.inr ⟨_,rfl,rfl,h',hr2⟩))
theorem kF{α:Type}{xs:Array α}{i:Nat}(h:xs.size<=i):xs[i]? =none:=Array.getElem?_eq_none h
theorem WR.frozen{u w:World}(h:WR σ D W0 u w){a a':Addr}(ha:AR σ D a a'):w.frozen? a'=u.frozen? a:=by
 obtain⟨hd,rfl⟩:=ha
 unfold World.frozen?
 dsimp only
 rcases ho:u.heap[a.block]? with _|o
 ·have hle:u.heap.size<=a.block:=Array.getElem?_eq_none_iff.1 ho
  rw[kF (h.YR _ hd hle)]
 ·obtain⟨o',ho',hr⟩:=h.obj _ _ hd ho
  rw[ho']
  cases hr with
  |cells hv e f=>rfl
  |_=>rfl
theorem WR.shape{u w:World}(h:WR σ D W0 u w){r:Nat}(hd:D r):w.shape? (σ r)=u.shape? r:=by
 unfold World.shape?
 rcases ho:u.heap[r]? with _|o
 ·have hle:u.heap.size<=r:=Array.getElem?_eq_none_iff.1 ho
  rw[kF (h.YR _ hd hle)]
 ·obtain⟨o',ho',hr⟩:=h.obj _ _ hd ho
  rw[ho']
  cases hr with
  |cells hv e f=>simp[hv.1]
  |_=>rfl
theorem WR.turn{u w:World}(h:WR σ D W0 u w)(hinj:∀r r',D r->D r'->σ r=σ r'->r=r'){b:Nat}(hd:D b){u' w':World}(hu:u'.heap.size=u.heap.size)(hw:w'.heap.size=w.heap.size)
  (hub:∀r,r≠b->u'.heap[r]? =u.heap[r]?) (hwb:∀r,r≠σ b->w'.heap[r]? =w.heap[r]?)
  (hb:∀o,u'.heap[b]? =some o->∃o',w'.heap[σ b]? =some o'/\OR σ D o o')
  (ho:∀(a:Addr),a.block=b->b<W0.heap.size->∀z,DV z=true->u'.cell? a=some z->w'.cell? {a with block:=σ a.block}=W0.cell? a) (hos:u'.os=w'.os):WR σ D W0 u' w':=by
 refine⟨λr o hr hro=> ?_,λr hr hle=> ?_,by rw[hu];exact h.low,λa ha hlt z hz hc=> ?_,hos⟩
 ·by_cases e:r=b
  ·subst e;exact hb o hro
  ·rw[hub r e]at hro
   obtain⟨o',h1,h2⟩:=h.obj r o hr hro
   exact⟨o',by rw[hwb _ (λe2=>e (hinj _ _ hr hd e2))];exact h1,h2⟩
 ·rw[hw];exact h.YR r hr (by rw[<-hu];exact hle)
 ·by_cases e:a.block=b
  ·exact ho a e (e▸hlt) z hz hc
  ·have h1:u'.cell? a=u.cell? a:=by unfold World.cell?;rw[hub _ e]
   rw[h1]at hc
   have h2:=h.orig a ha hlt z hz hc
   rw[<-h2]
   unfold World.cell?
   dsimp only
   rw[hwb _ (λe2=>e (hinj _ _ ha hd e2))]
theorem heap_setCell(w:World)(a:Addr)(v:Value)(r:Nat)(h:r≠a.block):(w.setCell a v).heap[r]? =w.heap[r]? :=by
 simp only[World.setCell]
 rw[Array.getElem?_modify,if_neg (λe=>h e.symm)]
theorem jr(w:World)(a:Addr)(v:Value){c:Array Value}{e:TypeId}{f:Nat×Nat}(h:w.heap[a.block]? =some (.cells c e f)):
  (w.setCell a v).heap[a.block]? =some (.cells (if a.spot.isSome then c else c.setIfInBounds a.off v) e f):=by
 simp only[World.setCell]
 rw[Array.getElem?_modify,if_pos rfl,h]
 rfl
def jR:Obj->Bool
 | .cells _ _ _=>false
 |_=>true
theorem jS(w:World)(a:Addr)(v:Value){o:Obj}(hn:jR o=true)(h:w.heap[a.block]? =some o):(w.setCell a v).heap[a.block]? =some o:=by
 simp only[World.setCell]
 rw[Array.getElem?_modify,if_pos rfl,h]
 cases o<;>first|rfl|cases hn
theorem oh(w:World)(a:Addr)(n:Nat){o:Obj}(hn:jR o=true)(h:w.heap[a.block]? =some o):(w.freeze a n).heap[a.block]? =some o:=by
 unfold World.freeze
 split
 ·rw[h]
 ·rw[Array.getElem?_modify,if_pos rfl,h]
  cases o<;>first|rfl|cases hn
theorem nI(w:World)(a:Addr)(n:Nat)(r:Nat)(h:r≠a.block):(w.freeze a n).heap[r]? =w.heap[r]? :=by
 unfold World.freeze
 split
 ·rfl
 ·rw[Array.getElem?_modify,if_neg (λe=>h e.symm)]
theorem qO(w:World)(a:Addr)(n:Nat){c:Array Value}{e:TypeId}{f:Nat×Nat}(h:w.heap[a.block]? =some (.cells c e f)):
  (w.freeze a n).heap[a.block]? =some (.cells c e (if n=0 then f else if f.1==f.2 then(a.off,a.off+n)else(min f.1 a.off,max f.2 (a.off+n)))):=by
 unfold World.freeze
 split
 ·rw[h]
 ·rw[Array.getElem?_modify,if_pos rfl,h]
  rfl
theorem WR.set{u w:World}(h:WR σ D W0 u w)(hinj:∀r r',D r->D r'->σ r=σ r'->r=r'){a a':Addr}(ha:AR σ D a a'){v v':Value}(hv:VR σ D v v')(hn:DV v=false):WR σ D W0 (u.setCell a v) (w.setCell a' v'):=by
 obtain⟨hd,rfl⟩:=ha
 refine h.turn hinj hd (by simp[World.setCell]) (by simp[World.setCell]) (λr hr=>heap_setCell _ _ _ _ hr) (λr hr=>heap_setCell _ _ _ _ hr) (λo ho=> ?_) (λx hx hlt z hz hc=> ?_) h.os
 ·rcases hb:u.heap[a.block]? with _|o0
  ·have hle:u.heap.size<=a.block:=Array.getElem?_eq_none_iff.1 hb
   rw[kF (by simpa [World.setCell]using hle)]at ho
   cases ho
  ·obtain⟨o1,h1,h2⟩:=h.obj _ _ hd hb
   have h3:=h2
   have acj:jR o0=true->jR o1=true->∃o',(w.setCell {a with block:=σ a.block} v').heap[σ a.block]? =some o'/\OR σ D o o':=λm1 m2=>by
    rw[jS _ _ _ m1 hb]at ho
    cases ho
    exact⟨_,jS w {a with block:=σ a.block} v' m2 h1,h3⟩
   rcases Bool.eq_false_or_eq_true (jR o0)with m1|m1
   ·exact acj m1 (by cases h2<;>first|rfl|cases m1)
   cases h2<;>first|(cases m1;done)|skip
   rename_i hv0 e f
   rw[jr _ _ _ hb]at ho
   cases ho
   refine⟨_,jr w {a with block:=σ a.block} v' h1,?_⟩
   dsimp only
   split
   ·exact .cells hv0 e f
   ·exact .cells (hv0.set hv) e f
 ·rcases hb:u.heap[a.block]? with _|o0
  ·have hle:u.heap.size<=a.block:=Array.getElem?_eq_none_iff.1 hb
   unfold World.cell? at hc
   rw[hx,kF (by simpa [World.setCell]using hle)]at hc
   cases hc
  ·obtain⟨o1,h1,h2⟩:=h.obj _ _ hd hb
   rcases Bool.eq_false_or_eq_true (jR o0)with m1|m1
   ·unfold World.cell? at hc
    rw[hx,jS _ _ _ m1 hb]at hc
    cases o0<;>first|(cases hc;done)|cases m1
   cases h2<;>first|(cases m1;done)|skip
   rename_i hv0 e f
   have hs:=jr u a v hb
   have hs':=jr w {a with block:=σ a.block} v' h1
   have key:u.cell? x=some z/\(w.setCell {a with block:=σ a.block} v').cell? {x with block:=σ x.block}=w.cell? {x with block:=σ x.block}:=by
    obtain⟨xb,xo,xs⟩:=x
    dsimp only at hx
    subst hx
    unfold World.cell? at hc⊢
    dsimp only at hc⊢
    rw[hs]at hc
    rw[hb,hs',h1]
    dsimp only at hc⊢
    by_cases e1:xs.isSome=true
    ·rw[if_pos e1]at hc;cases hc
    ·rw[if_neg e1]at hc⊢
     by_cases e2:a.spot.isSome=true
     ·rw[if_pos e2]at hc
      simp only[if_pos e2,if_neg e1]
      exact⟨hc,trivial⟩
     ·rw[if_neg e2,Array.getElem?_setIfInBounds]at hc
      simp only[if_neg e2,if_neg e1]
      by_cases e3:a.off=xo
      ·rw[if_pos e3]at hc
       split at hc
       ·cases hc;rw[hn]at hz;cases hz
       ·cases hc
      ·rw[if_neg e3]at hc
       exact⟨hc,by rw[Array.getElem?_setIfInBounds,if_neg e3]⟩
   rw[key.2]
   exact h.orig x (hx▸hd) (hx▸hlt) z hz key.1
theorem WR.freeze{u w:World}(h:WR σ D W0 u w)(hinj:∀r r',D r->D r'->σ r=σ r'->r=r'){a a':Addr}(ha:AR σ D a a')(n:Nat):WR σ D W0 (u.freeze a n) (w.freeze a' n):=by
 obtain⟨hd,rfl⟩:=ha
 have hsz:∀(w:World)(a:Addr),(w.freeze a n).heap.size=w.heap.size:=λw a=>by unfold World.freeze;split<;>simp
 have hos:∀(w:World)(a:Addr),(w.freeze a n).os=w.os:=λw a=>by unfold World.freeze;split<;>rfl
 have hcell:∀(w:World)(a x:Addr),(w.freeze a n).cell? x=w.cell? x:=λw a x=>by
  by_cases e:x.block=a.block
  ·unfold World.freeze
   split
   ·rfl
   ·unfold World.cell?
    dsimp only
    rw[Array.getElem?_modify,if_pos e.symm]
    rcases w.heap[x.block]? with _|o
    ·rfl
    ·cases o<;>rfl
  ·unfold World.cell?
   rw[nI _ _ _ _ e]
 refine h.turn hinj hd (hsz _ _) (hsz _ _) (λr hr=>nI _ _ _ _ hr) (λr hr=>nI _ _ _ _ hr) (λo ho=> ?_) (λx hx hlt z hz hc=> ?_) ((hos _ _).trans (h.os.trans (hos _ _).symm))
 ·rcases hb:u.heap[a.block]? with _|o0
  ·have hle:u.heap.size<=a.block:=Array.getElem?_eq_none_iff.1 hb
   rw[kF (by rw[hsz];exact hle)]at ho
   cases ho
  ·obtain⟨o1,h1,h2⟩:=h.obj _ _ hd hb
   have h3:=h2
   have acj:jR o0=true->jR o1=true->∃o',(w.freeze {a with block:=σ a.block} n).heap[σ a.block]? =some o'/\OR σ D o o':=λm1 m2=>by
    rw[oh _ _ _ m1 hb]at ho
    cases ho
    exact⟨_,oh w {a with block:=σ a.block} n m2 h1,h3⟩
   rcases Bool.eq_false_or_eq_true (jR o0)with m1|m1
   ·exact acj m1 (by cases h2<;>first|rfl|cases m1)
   cases h2<;>first|(cases m1;done)|skip
   rename_i hv0 e f
   rw[qO _ _ _ hb]at ho
   cases ho
   exact⟨_,qO w {a with block:=σ a.block} n h1,.cells hv0 e _⟩
 ·rw[hcell]at hc⊢
  exact h.orig x (hx▸hd) (hx▸hlt) z hz hc
theorem WR.setObj{u w:World}(h:WR σ D W0 u w)(hinj:∀r r',D r->D r'->σ r=σ r'->r=r'){r:Nat}(hd:D r){o o':Obj}(ho:OR σ D o o')(hm:Io o=true)(hu:r<u.heap.size):
  WR σ D W0 {u with heap:=u.heap.setIfInBounds r o} {w with heap:=w.heap.setIfInBounds (σ r) o'}:=by
 refine h.turn hinj hd (by simp) (by simp) (λx hx=> ?_) (λx hx=> ?_) (λx hx=> ?_) (λa ha _ z _ hc=> ?_) h.os
 ·dsimp only
  rw[Array.getElem?_setIfInBounds_ne (Ne.symm hx)]
 ·dsimp only
  rw[Array.getElem?_setIfInBounds_ne (Ne.symm hx)]
 ·dsimp only at hx⊢
  rw[Array.getElem?_setIfInBounds_self_of_lt hu]at hx
  cases hx
  obtain⟨o1,h1,_⟩:=h.obj r _ hd (Array.getElem?_eq_getElem hu)
  rw[Array.getElem?_setIfInBounds_self_of_lt (Array.getElem?_eq_some_iff.1 h1).1]
  exact⟨o',rfl,ho⟩
 ·unfold World.cell? at hc
  dsimp only at hc
  rw[ha,Array.getElem?_setIfInBounds_self_of_lt hu]at hc
  cases o<;>first|(cases hm;done)|cases hc
theorem WR.push{u w:World}(h:WR σ D W0 u w)(hinj:∀r r',D r->D r'->σ r=σ r'->r=r'){o o':Obj}(ho:OR σ D o o')(hd:D u.heap.size)(hs:σ u.heap.size=w.heap.size):
  WR σ D W0 {u with heap:=u.heap.push o} {w with heap:=w.heap.push o'}:=by
 refine⟨λr x hr hrx=> ?_,λr hr hle=> ?_,?_,λa ha hlt z hz hc=> ?_,h.os⟩
 ·dsimp only at hrx⊢
  rw[Array.getElem?_push]at hrx
  split at hrx<;>rename_i e
  ·cases hrx
   rw[e,hs]
   exact⟨o',by rw[Array.getElem?_push,if_pos rfl],ho⟩
  ·obtain⟨x',h1,h2⟩:=h.obj r x hr hrx
   refine⟨x',?_,h2⟩
   rw[Array.getElem?_push,if_neg (λe2=>e (hinj _ _ hr hd (e2.trans hs.symm)))]
   exact h1
 ·dsimp only at hle⊢
  simp only[Array.size_push]at hle⊢
  have h1:=h.YR r hr (by omega)
  have h2:σ r≠w.heap.size:=λe=>by
   have:=hinj _ _ hr hd (e.trans hs.symm)
   omega
  omega
 ·have:=h.low
  simp only[Array.size_push]
  omega
 ·have hlow:=h.low
  have e1:({u with heap:=u.heap.push o}:World).cell? a=u.cell? a:=by
   unfold World.cell?
   dsimp only
   rw[Array.getElem?_push,if_neg (by omega)]
  rw[e1]at hc
  have h1:=h.orig a ha hlt z hz hc
  rw[<-h1]
  unfold World.cell?
  dsimp only
  rw[Array.getElem?_push,if_neg (λe=>by have:=hinj _ _ ha hd (e.trans hs.symm);omega)]
end
end Go.Proofs.YtlncengggmgdgaaGreat.par
namespace Go.Proofs.YtlncengggmgdgaaGreat.par
open Go
section
variable {T : Tables} {F' F : Array Func}
theorem FQ(t:TypeId):Program.underlying (⟨T,F'⟩:Program) t=Program.underlying (⟨T,F⟩:Program) t:=rfl
theorem mG(t:TypeId):Program.cellsOf (⟨T,F'⟩:Program) t=Program.cellsOf (⟨T,F⟩:Program) t:=rfl
theorem kG(t:TypeId):Program.bytesOf (⟨T,F'⟩:Program) t=Program.bytesOf (⟨T,F⟩:Program) t:=rfl
theorem AV:Program.depth (⟨T,F'⟩:Program)=Program.depth (⟨T,F⟩:Program):=rfl
theorem ji:∀(d:Nat)(t:TypeId)(off:Nat),byteOfCell (⟨T,F'⟩:Program) d t off=byteOfCell (⟨T,F⟩:Program) d t off
 |0,t,off=>rfl
 |d+1,t,off=>by
  unfold byteOfCell
  simp only[FQ (F':=F') (F:=F),mG (F':=F') (F:=F),kG (F':=F') (F:=F),ji d]
theorem qP:∀(d:Nat)(t:TypeId)(b:Nat),cellHolding (⟨T,F'⟩:Program) d t b=cellHolding (⟨T,F⟩:Program) d t b
 |0,t,b=>rfl
 |d+1,t,b=>by
  unfold cellHolding
  simp only[FQ (F':=F') (F:=F),mG (F':=F') (F:=F),kG (F':=F') (F:=F),qP d]
theorem vJ:∀(d:Nat)(t:TypeId)(b:Nat),plainCell (⟨T,F'⟩:Program) d t b=plainCell (⟨T,F⟩:Program) d t b
 |0,t,b=>rfl
 |d+1,t,b=>by
  unfold plainCell
  simp only[FQ (F':=F') (F:=F),mG (F':=F') (F:=F),kG (F':=F') (F:=F),vJ d]
theorem Ip:∀(d:Nat)(t:TypeId),tight (⟨T,F'⟩:Program) d t=tight (⟨T,F⟩:Program) d t
 |0,t=>rfl
 |d+1,t=>by
  unfold tight
  simp only[FQ (F':=F') (F:=F),kG (F':=F') (F:=F),Ip d]
end
section
variable {σ : Nat → Nat} {D : Nat → Prop} {W0 : World} {T : Tables} {F' F : Array Func}
theorem AY{v v':Value}(h:VR σ D v v'){bs:List UInt8}(hb:v.bytes?=some bs):v'=v:=by
 cases h<;>first|rfl|cases hb
theorem uy{c c':Array Value}(hc:dI σ D c c')(e:TypeId):∀(f x stop:Nat)(L:List (Nat×Nat×List UInt8)),seenCells (⟨T,F'⟩:Program) c e f x stop=.ok L->seenCells (⟨T,F⟩:Program) c' e f x stop=.ok L
 |0,x,stop,L,h=>by unfold seenCells at h;cases h
 |f+1,x,stop,L,h=>by
  unfold seenCells at h⊢
  by_cases hx:x>=stop
  ·rw[if_pos hx]at h⊢;exact h
  rw[if_neg hx]at h⊢
  simp only[qP (F':=F') (F:=F),kG (F':=F') (F:=F),mG (F':=F') (F:=F),AV (F':=F') (F:=F)]at h
  by_cases hw:Program.bytesOf (⟨T,F⟩:Program) e=0
  ·rw[if_pos hw]at h;cases h
  rw[if_neg hw]at h⊢
  generalize(Option.map (λ(p:Nat×Nat)=>(x/Program.bytesOf (⟨T,F⟩:Program) e*Program.cellsOf (⟨T,F⟩:Program) e+p.1,x/Program.bytesOf (⟨T,F⟩:Program) e*Program.bytesOf (⟨T,F⟩:Program) e+p.2)) (cellHolding (⟨T,F⟩:Program) (Program.depth (⟨T,F⟩:Program)) e (x%Program.bytesOf (⟨T,F⟩:Program) e)))=o at h⊢
  rcases o with _|⟨i,s⟩
  ·cases h
  dsimp only at h⊢
  rcases hi:c[i]? with _|v
  ·rw[hi]at h;cases h
  obtain⟨v',hv',hvv⟩:=hc.get hi
  rw[hi]at h
  rw[hv']
  dsimp only at h⊢
  rcases hb:v.bytes? with _|bs
  ·rw[hb]at h;cases h
  rw[AY hvv hb,hb]
  rw[hb]at h
  rcases bs with _|⟨b,bs⟩
  ·cases h
  dsimp only at h⊢
  rcases hr:seenCells (⟨T,F'⟩:Program) c e f (s+(b::bs).length) stop with er|L0
  ·rw[hr]at h;cases h
  ·rw[hr]at h
   rw[uy hc e f _ stop L0 hr]
   exact h
theorem Iq{u w:World}(hw:WR σ D W0 u w){a a':Addr}(ha:AR σ D a a')(ty:TypeId){k k':Addr}(hk:k'.off=k.off/\k'.spot=k.spot)(at':Bool){c:Array Value}{e:TypeId}{fr:Nat×Nat}{first:Nat}{like:Value}{L:List (Nat×Nat×List UInt8)}
  (h:u.seen (⟨T,F'⟩:Program) a ty k at'=.ok (c,e,fr,first,like,L)):∃c',dI σ D c c'/\w.seen (⟨T,F⟩:Program) a' ty k' at'=.ok (c',e,fr,first,like,L)/\u.heap[a.block]? =some (.cells c e fr)/\w.heap[a'.block]? =some (.cells c' e fr):=by
 have e1:a'.block=σ a.block:=by rw[ha.2]
 have e2:a'.spot=a.spot:=by rw[ha.2]
 have e3:a'.off=a.off:=by rw[ha.2]
 unfold World.seen at h⊢
 rw[hk.1,hk.2,e2,e3]
 simp only[vJ (F':=F') (F:=F),ji (F':=F') (F:=F),kG (F':=F') (F:=F),mG (F':=F') (F:=F),AV (F':=F') (F:=F),bind,Except.bind,pure,Except.pure,throw,throwThe,MonadExceptOf.throw]at h⊢
 split at h
 ·cases h
 rename_i hs
 rw[if_neg hs]
 try dsimp only at h⊢
 split at h
 ·rename_i lk hp
  try rw[hp]
  try dsimp only at h⊢
  split at h
  ·rename_i n hn
   try rw[hn]
   try dsimp only at h⊢
   split at h
   ·rename_i b hb
    try rw[hb]
    try dsimp only at h⊢
    split at h
    ·rename_i c0 e0 f0 ho
     obtain⟨o',h1,h2⟩:=hw.obj _ _ ha.1 ho
     cases h2 with
     | @cells _ c' hv e f=>
     rw[e1,h1]
     try dsimp only at h⊢
     split at h
     ·cases h
     rename_i hz
     rw[if_neg hz]
     try dsimp only at h⊢
     split at h
     ·rename_i b0 hb0
      try rw[hb0]
      try dsimp only at h⊢
      split at h
      ·cases h
      rename_i L0 hL
      rw[uy hv _ _ _ _ _ hL]
      try dsimp only at h⊢
      refine⟨c',?_⟩
      split at h
      ·rename_i ha1
       rw[if_pos ha1]
       split at h
       ·split at h
        ·cases h
        ·rename_i hq
         try dsimp only at h⊢
         cases h
         rw[if_neg hq]
         exact⟨hv,rfl,ho,rfl⟩
       ·cases h
      ·rename_i ha1
       rw[if_neg ha1]
       cases h
       exact⟨hv,rfl,ho,rfl⟩
     ·cases h
    ·cases h
   ·cases h
  ·cases h
 ·cases h
theorem o7{like v:Value}{bs:List UInt8}(h:like.ofBytes bs=some v):VR σ D v v/\DV v=false:=by
 unfold Value.ofBytes at h
 split at h
 ·split at h<;>first|(cases h;exact⟨.bool _,rfl⟩)|cases h
 ·split at h
  ·cases h;exact⟨.int _ _,rfl⟩
  ·cases h
 ·split at h
  ·cases h;exact⟨.float _ _,rfl⟩
  ·cases h
 ·split at h
  ·cases h;exact⟨.complex _ _ _,rfl⟩
  ·cases h
 ·cases h
theorem Ir{u w:World}(hw:WR σ D W0 u w){a a':Addr}(ha:AR σ D a a')(hc:u.cell? a=none)(at':Bool):
  match u.farLoad (⟨T,F'⟩:Program) a at' with
  | .ok (v,L)=>∃L',w.farLoad (⟨T,F⟩:Program) a' at'=.ok (v,L')/\w.cell? a'=none/\VR σ D v v/\∀x∈L',∃r,D r/\x.block=σ r
  | .error x=>cZ x:=by
 have e1:a'.block=σ a.block:=by rw[ha.2]
 unfold World.farLoad
 rcases ho:u.heap[a.block]? with _|o
 ·unfold World.noCell
  rw[ho]
  trivial
 rcases hw.vI ha.1 ho with⟨c,e,f,rfl⟩|⟨x,x',t,rfl,ho',hx⟩|⟨x,x',t,rfl,ho',hx⟩|⟨o',hm,_,ho',hx⟩
 ·unfold World.noCell
  rw[ho]
  trivial
 rotate_left
 ·unfold World.noCell
  rw[ho]
  trivial
 ·unfold World.noCell
  rw[ho]
  cases o<;>first|(cases hm;done)|trivial
 rw[e1,ho']
 dsimp only
 unfold World.viewLoad
 simp only[bind,Except.bind,pure,Except.pure,throw,throwThe,MonadExceptOf.throw]
 rcases hs:u.seen (⟨T,F'⟩:Program) x t a at' with er|⟨c,e,fr,first,like,L⟩
 ·trivial
 obtain⟨c',hc',hs',_,_⟩:=Iq hw hx t (k:=a) (k':=a') ⟨by rw[ha.2],by rw[ha.2]⟩ at' hs
 rw[hs']
 dsimp only
 generalize(L.flatMap λ(p:Nat×Nat×List UInt8)=>(p.2.2.drop (first-p.2.1)).take (first+(like.bytes?.map (·.length)).getD 0-max first p.2.1))=bs
 rcases hb:like.ofBytes bs with _|v
 ·trivial
 refine⟨_,rfl,?_,(o7 hb).1,λy hy=> ?_⟩
 ·unfold World.cell?
  rw[e1,ho']
 ·obtain⟨p,_,rfl⟩:=List.mem_map.1 hy
  exact⟨x.block,hx.1,by rw[hx.2]⟩
def qQ(fr:Nat×Nat)(first:Nat)(bytes:List UInt8)(c:Array Value)(p:Nat×Nat×List UInt8):Except String (Array Value):=
 if p.2.1<first||p.2.1+p.2.2.length>first+bytes.length then .error "memory seen as another type: a part of a cell written" else if fr.1<=p.1&&p.1<fr.2 then .error "a write to bytes that a string shares" else
  match c[p.1]? with
  |some old=>match old.ofBytes ((bytes.drop (p.2.1-first)).take p.2.2.length)with
   |some new=>.ok (c.setIfInBounds p.1 new)
   |_=>.error "memory seen as another type: a bool from a byte other than 0 or 1"
  |_=>.error "memory seen as another type: no such cell"
theorem lF(p:Program)(w:World)(x:Addr)(t:TypeId)(k:Addr)(v:Value)(at':Bool):w.viewStore p x t k v at'=
  (if !tight p p.depth t then .error "memory seen as another type: a store through a type with padding" else
   match w.seen p x t k at' with
   | .error e=>.error e
   | .ok (c,e,fr,first,like,L)=>match v.bytes? with
    |some bytes=>if some bytes.length≠like.bytes?.map (·.length)then .error "memory seen as another type: a value of another size" else
     match L.foldlM (qQ fr first bytes) c with
     | .error e=>.error e
     | .ok c=>.ok ({w with heap:=w.heap.setIfInBounds x.block (.cells c e fr)},L.map λp=>{block:=x.block,off:=p.1})
    |_=>.error "memory seen as another type: a value that is no plain data"):=by
 unfold World.viewStore
 by_cases ht:(!tight p p.depth t)=true
 ·rw[if_pos ht,if_pos ht];rfl
 rw[if_neg ht,if_neg ht]
 simp only[bind,Except.bind,pure,Except.pure,throw,throwThe,MonadExceptOf.throw]
 rcases w.seen p x t k at' with er|⟨c,e,fr,first,like,L⟩
 ·rfl
 dsimp only
 rcases v.bytes? with _|bytes
 ·rfl
 dsimp only
 by_cases hl:some bytes.length≠Option.map (λ(x:List UInt8)=>x.length) like.bytes?
 ·rw[if_pos hl,if_pos hl];rfl
 rw[if_neg hl,if_neg hl]
 have e1:∀(f g:Array Value->Nat×Nat×List UInt8->Except String (Array Value)),(∀a b,f a b=g a b)->List.foldlM f c L=List.foldlM g c L:=λf g h=>by rw[show f=g from funext λa=>funext λb=>h a b]
 rw[e1 _ (qQ fr first bytes) (λa b=> ?_)]
 ·rcases List.foldlM (qQ fr first bytes) c L with er|c1<;>rfl
 ·unfold qQ
  split
  ·rfl
  ·split
   ·rfl
   ·rfl
theorem vK{c c':Array Value}(hv:dI σ D c c')(fr:Nat×Nat)(first:Nat)(bytes:List UInt8):
  ∀(L:List (Nat×Nat×List UInt8))(x x' x1:Array Value),dI σ D x x'->(∀(i:Nat)(z:Value),DV z=true->x[i]? =some z->c[i]? =some z/\x'[i]? =c'[i]?)->List.foldlM (qQ fr first bytes) x L=.ok x1->
   ∃x1',List.foldlM (qQ fr first bytes) x' L=.ok x1'/\dI σ D x1 x1'/\∀(i:Nat)(z:Value),DV z=true->x1[i]? =some z->c[i]? =some z/\x1'[i]? =c'[i]?
 |[],x,x',x1,hx,hk,h=>by
  simp only[List.foldlM_nil,pure,Except.pure]at h⊢
  cases h
  exact⟨x',rfl,hx,hk⟩
 |p::L,x,x',x1,hx,hk,h=>by
  simp only[List.foldlM_cons,bind,Except.bind]at h⊢
  rcases h1:qQ fr first bytes x p with er|y
  ·rw[h1]at h;cases h
  rw[h1]at h
  dsimp only at h
  have key:∃y',qQ fr first bytes x' p=.ok y'/\dI σ D y y'/\∀(i:Nat)(z:Value),DV z=true->y[i]? =some z->c[i]? =some z/\y'[i]? =c'[i]? :=by
   unfold qQ at h1⊢
   split at h1
   ·cases h1
   rename_i n1
   rw[if_neg n1]
   split at h1
   ·cases h1
   rename_i n2
   rw[if_neg n2]
   rcases hi:x[p.1]? with _|old
   ·rw[hi]at h1;cases h1
   obtain⟨old',ho',hoo⟩:=hx.get hi
   rw[hi]at h1
   rw[ho']
   dsimp only at h1⊢
   rcases hb:old.ofBytes ((bytes.drop (p.2.1-first)).take p.2.2.length)with _|nw
   ·rw[hb]at h1;cases h1
   rw[hb]at h1
   have e2:old'.ofBytes ((bytes.drop (p.2.1-first)).take p.2.2.length)=some nw:=by
    cases hoo<;>first|exact hb|cases hb
   rw[e2]
   cases h1
   refine⟨_,rfl,hx.set (o7 hb).1,λi z hz hiu=> ?_⟩
   rw[Array.getElem?_setIfInBounds]at hiu⊢
   by_cases e:p.1=i
   ·rw[if_pos e]at hiu
    split at hiu
    ·cases hiu;rw[(o7 (σ:=σ) (D:=D) hb).2]at hz;cases hz
    ·cases hiu
   ·rw[if_neg e]at hiu⊢
    exact hk i z hz hiu
  obtain⟨y',g1,g2,g3⟩:=key
  rw[g1]
  dsimp only
  exact vK hv fr first bytes L y y' x1 g2 g3 h
theorem FT(hinj:∀r r',D r->D r'->σ r=σ r'->r=r'){u w:World}(hw:WR σ D W0 u w){a a':Addr}(ha:AR σ D a a')(hc:u.cell? a=none){v v':Value}(hv:VR σ D v v')(at':Bool):
  match u.farStore (⟨T,F'⟩:Program) a v at' with
  | .ok (u',L)=>∃w' L',w.farStore (⟨T,F⟩:Program) a' v' at'=.ok (w',L')/\w.cell? a'=none/\WR σ D W0 u' w'/\Turned σ D u w u' w'/\u'.heap.size=u.heap.size/\w'.heap.size=w.heap.size/\u'.drawn=u.drawn/\w'.drawn=w.drawn/\u'.tape=u.tape/\w'.tape=w.tape/\∀x∈L',∃r,D r/\x.block=σ r
  | .error x=>cZ x:=by
 have e1:a'.block=σ a.block:=by rw[ha.2]
 unfold World.farStore
 rcases ho:u.heap[a.block]? with _|o
 ·unfold World.noCell
  rw[ho]
  trivial
 rcases hw.vI ha.1 ho with⟨c,e,f,rfl⟩|⟨x,x',t,rfl,ho',hx⟩|⟨x,x',t,rfl,ho',hx⟩|⟨o',hm,_,ho',hx⟩
 ·unfold World.noCell
  rw[ho]
  trivial
 rotate_left
 ·unfold World.noCell
  rw[ho]
  trivial
 ·unfold World.noCell
  rw[ho]
  cases o<;>first|(cases hm;done)|trivial
 rw[e1,ho']
 dsimp only
 rw[lF,lF,Ip (F':=F') (F:=F),AV (F':=F') (F:=F)]
 by_cases ht:(!tight (⟨T,F⟩:Program) (Program.depth (⟨T,F⟩:Program)) t)=true
 ·rw[if_pos ht];trivial
 rw[if_neg ht,if_neg ht]
 rcases hs:u.seen (⟨T,F'⟩:Program) x t a at' with er|⟨c,e,fr,first,like,L⟩
 ·trivial
 obtain⟨c',hc',hs',hcell,hcw0⟩:=Iq hw hx t (k:=a) (k':=a') ⟨by rw[ha.2],by rw[ha.2]⟩ at' hs
 rw[hs']
 dsimp only
 rcases hb:v.bytes? with _|bytes
 ·trivial
 rw[AY hv hb,hb]
 dsimp only
 by_cases hl:some bytes.length≠Option.map (λ(x:List UInt8)=>x.length) like.bytes?
 ·rw[if_pos hl];trivial
 rw[if_neg hl,if_neg hl]
 rcases hf:List.foldlM (qQ fr first bytes) c L with er|c1
 ·trivial
 obtain⟨c1',g1,g2,g3⟩:=vK hc' fr first bytes L c c' c1 hc' (λi z hz hi=>⟨hi,rfl⟩) hf
 rw[g1]
 dsimp only
 have ex:x'.block=σ x.block:=by rw[hx.2]
 have hlt:x.block<u.heap.size:=(Array.getElem?_eq_some_iff.1 hcell).1
 have hcw:w.heap[σ x.block]? =some (.cells c' e fr):=by rw[<-ex];exact hcw0
 have hlt':σ x.block<w.heap.size:=(Array.getElem?_eq_some_iff.1 hcw).1
 refine⟨_,_,rfl,?_,?_,?_,by simp,by simp,rfl,rfl,rfl,rfl,λy hy=> ?_⟩
 ·unfold World.cell?
  rw[e1,ho']
 ·refine hw.turn hinj hx.1 (by simp) (by simp) (λr hr=> ?_) (λr hr=> ?_) (λo ho=> ?_) (λy hy hlo z hz hcy=> ?_) hw.os
  ·dsimp only
   rw[Array.getElem?_setIfInBounds_ne (λe=>hr e.symm)]
  ·dsimp only
   rw[ex,Array.getElem?_setIfInBounds_ne (λe=>hr e.symm)]
  ·dsimp only at ho⊢
   rw[Array.getElem?_setIfInBounds_self_of_lt hlt]at ho
   cases ho
   rw[ex,Array.getElem?_setIfInBounds_self_of_lt hlt']
   exact⟨_,rfl,.cells g2 e fr⟩
  ·obtain⟨yb,yo,ys⟩:=y
   dsimp only at hy
   subst hy
   generalize hW:W0.cell? ⟨x.block,yo,ys⟩=wv
   unfold World.cell? at hcy⊢
   dsimp only at hcy⊢
   rw[Array.getElem?_setIfInBounds_self_of_lt hlt]at hcy
   rw[ex,Array.getElem?_setIfInBounds_self_of_lt hlt']
   dsimp only at hcy⊢
   by_cases e2:ys.isSome=true
   ·rw[if_pos e2]at hcy;cases hcy
   ·rw[if_neg e2]at hcy⊢
    obtain⟨h1,h2⟩:=g3 _ z hz hcy
    rw[h2]
    have h3:=hw.orig ⟨x.block,yo,ys⟩ hx.1 hlo z hz (by unfold World.cell?;rw[hcell];dsimp only;rw[if_neg e2];exact h1)
    rw[<-hW,<-h3]
    unfold World.cell?
    dsimp only
    rw[hcw]
    dsimp only
    rw[if_neg e2]
 ·refine⟨⟨by simp,Nat.le_refl _,rfl⟩,rfl,rfl,rfl,by simp,rfl,λb hb hr=> ?_⟩
  dsimp only
  rw[ex,Array.getElem?_setIfInBounds_ne (λe=>hr x.block hx.1 hlt e)]
 ·obtain⟨p,_,rfl⟩:=List.mem_map.1 hy
  exact⟨x.block,hx.1,by rw[hx.2]⟩
theorem vM{P' P:Program}(hP:P'.toTables=P.toTables){u w:World}(hw:WR σ D W0 u w){a a':Addr}(ha:AR σ D a a')(hc:u.cell? a=none)(at':Bool):
  match u.farLoad P' a at' with
  | .ok (v,L)=>∃L',w.farLoad P a' at'=.ok (v,L')/\w.cell? a'=none/\VR σ D v v/\∀x∈L',∃r,D r/\x.block=σ r
  | .error x=>cZ x:=by
 obtain⟨T,F'⟩:=P'
 obtain⟨T1,F⟩:=P
 obtain rfl:T=T1:=hP
 exact Ir hw ha hc at'
theorem uz{P' P:Program}(hP:P'.toTables=P.toTables)(hinj:∀r r',D r->D r'->σ r=σ r'->r=r'){u w:World}(hw:WR σ D W0 u w){a a':Addr}(ha:AR σ D a a')(hc:u.cell? a=none){v v':Value}(hv:VR σ D v v')(at':Bool):
  match u.farStore P' a v at' with
  | .ok (u',L)=>∃w' L',w.farStore P a' v' at'=.ok (w',L')/\w.cell? a'=none/\WR σ D W0 u' w'/\Turned σ D u w u' w'/\u'.heap.size=u.heap.size/\w'.heap.size=w.heap.size/\u'.drawn=u.drawn/\w'.drawn=w.drawn/\u'.tape=u.tape/\w'.tape=w.tape/\∀x∈L',∃r,D r/\x.block=σ r
  | .error x=>cZ x:=by
 obtain⟨T,F'⟩:=P'
 obtain⟨T1,F⟩:=P
 obtain rfl:T=T1:=hP
 exact FT hinj hw ha hc hv at'
end
end Go.Proofs.YtlncengggmgdgaaGreat.par
namespace Go.Proofs.YtlncengggmgdgaaGreat.par
open Go
section
variable (σ : Nat → Nat) (D : Nat → Prop) (W0 : World)
def QM{α β:Type}(R:α->β->Prop)(u w:World)(es:Array Event):Result α->Result β×Array Event->Prop
 | .ok a u',(.ok b w',es')=>R a b/\WR σ D W0 u' w'/\Turned σ D u w u' w'/\∃l:Array Event,es'=es++l/\∀e∈l,uf σ D e
 | .halt (.panic v) u',(.halt (.panic v') w',es')=>VR σ D v v'/\WR σ D W0 u' w'/\Turned σ D u w u' w'/\∃l:Array Event,es'=es++l/\∀e∈l,uf σ D e
 | .halt h _,_=>cZ h
 |_,_=>False
end
theorem Dead.run{α:Type}{s:Sem α}(h:Dead s)(p:Program):∀(w:World)(es:Array Event),∃h' w',(s.runT p w es).1=.halt h' w'/\cZ h':=by
 induction h with
 |halt hb=>intro w es;exact⟨_,_,rfl,hb⟩
 |shape _ ih=>intro w es;exact ih _ _ _
 |frozen _ ih=>intro w es;exact ih _ _ _
 |choose _ ih=>
  intro w es
  simp only[Sem.runT]
  split
  ·exact ih _ _ _
  ·exact ih _ _ _
 |program _ ih=>intro w es;exact ih _ _ _
 |mark _ ih=>intro w es;exact ih _ _
section
variable {σ : Nat → Nat} {D : Nat → Prop} {W0 : World}
theorem QM.then{α β:Type}{R:α->β->Prop}{u w u1 w1:World}{es es1:Array Event}{r:Result α}{r':Result β×Array Event}(h:QM σ D W0 R u1 w1 es1 r r')(ht:Turned σ D u w u1 w1)(hn:∀r,u.heap.size<=r->r<u1.heap.size->w.heap.size<=σ r)
  {l:Array Event} (he:es1=es++l) (hl:∀e∈l,uf σ D e):QM σ D W0 R u w es r r':=by
 subst he
 have key:∀{u' w':World}{es':Array Event},(∃l':Array Event,es'=es++l++l'/\∀e∈l',uf σ D e)->∃l':Array Event,es'=es++l'/\∀e∈l',uf σ D e:=by
  rintro u' w' es' ⟨l',rfl,h'⟩
  exact⟨l++l',by rw[Array.append_assoc],λe he=>(Array.mem_append.1 he).elim (hl e) (h' e)⟩
 rcases r with⟨a,u'⟩|⟨h0,u'⟩
 ·obtain⟨r',es'⟩:=r'
  rcases r' with⟨b,w'⟩|⟨h1,w'⟩
  ·obtain⟨h1,h2,h3,h4⟩:=h
   exact⟨h1,h2,ht.trans h3 hn,key (u':=u') (w':=w') h4⟩
  ·exact h
 ·obtain⟨r',es'⟩:=r'
  cases h0<;>first|trivial|skip
  rcases r' with⟨b,w'⟩|⟨h1,w'⟩
  ·exact h
  ·cases h1<;>first|exact h|skip
   obtain⟨h1,h2,h3,h4⟩:=h
   exact⟨h1,h2,ht.trans h3 hn,key (u':=u') (w':=w') h4⟩
theorem lI{α β:Type}{R:α->β->Prop}{u w:World}{es:Array Event}{h:Halt}{u':World}(hb:cZ h)(r':Result β×Array Event):QM σ D W0 R u w es (.halt h u':Result α) r':=by
 cases h<;>first|exact hb|(exact absurd hb id)
theorem LH{u w:World}{a a':Addr}(ha:AR σ D a a')(hlt:a.block<u.heap.size)(v v':Value):Turned σ D u w (u.setCell a v) (w.setCell a' v'):=by
 obtain⟨hd,rfl⟩:=ha
 refine⟨uw _ _ _,rfl,rfl,rfl,by simp[World.setCell],rfl,λb hb hr=> ?_⟩
 by_cases e:b=σ a.block
 ·subst e
  exact absurd rfl (hr _ hd hlt)
 ·exact heap_setCell _ _ _ _ e
theorem DW{u w:World}(h:WR σ D W0 u w){a a':Addr}(ha:AR σ D a a')(n:Nat):Turned σ D u w (u.freeze a n) (w.freeze a' n):=by
 obtain⟨hd,rfl⟩:=ha
 have hsz:∀(w:World)(a:Addr),(w.freeze a n).heap.size=w.heap.size:=λw a=>by unfold World.freeze;split<;>simp
 have hs:∀(w:World)(a:Addr),(w.freeze a n).tape=w.tape/\(w.freeze a n).os=w.os/\(w.freeze a n).output=w.output/\(w.freeze a n).drawn=w.drawn:=λw a=>by unfold World.freeze;split<;>exact⟨rfl,rfl,rfl,rfl⟩
 refine⟨vH _ _ _,(hs _ _).1,(hs _ _).2.1,(hs _ _).2.2.1,by rw[hsz,hsz],by rw[(hs _ _).2.2.2,(hs _ _).2.2.2],λb hb hr=> ?_⟩
 by_cases e:b=σ a.block
 ·subst e
  by_cases hlt:a.block<u.heap.size
  ·exact absurd rfl (hr _ hd hlt)
  ·have:=h.YR _ hd (by omega)
   omega
 ·exact nI _ _ _ _ e
theorem Iu(u w:World)(o o':Obj):Turned σ D u w {u with heap:=u.heap.push o} {w with heap:=w.heap.push o'}:=by
 refine⟨⟨by simp,Nat.le_refl _,rfl⟩,rfl,rfl,rfl,by simp;omega,rfl,λb hb hr=> ?_⟩
 dsimp only
 rw[Array.getElem?_push,if_neg (by omega)]
theorem yU(u w:World):Turned σ D u w {u with drawn:=u.drawn+1} {w with drawn:=w.drawn+1}:=
 ⟨⟨Nat.le_refl _,Nat.le_succ _,rfl⟩,rfl,rfl,rfl,rfl,by dsimp only;omega,λ_ _ _=>rfl⟩
theorem block_lt{u:World}{a:Addr}{v:Value}(h:u.cell? a=some v):a.block<u.heap.size:=by
 unfold World.cell? at h
 rcases Nat.lt_or_ge a.block u.heap.size with hlt|hge
 ·exact hlt
 ·rw[kF hge]at h;cases h
theorem mem_push{α:Type}{x e:α}(h:e∈(#[x]:Array α)):e=x:=by simpa using h
theorem ay.run{α β:Type}{P' P:Program}{R:α->β->Prop}(hP:P'.toTables=P.toTables)(hinj:∀r r',D r->D r'->σ r=σ r'->r=r'){s:Sem α}{s':Sem β}(h:ay σ D P' P R s s'):∀(u w:World)(es0 es:Array Event),WR σ D W0 u w->
  (∀i,w.drawn+i<(qN (s'.runT P w es).1).drawn->u.tape (u.drawn+i)=w.tape (w.drawn+i))->
  (∀i,w.heap.size+i<(qN (s'.runT P w es).1).heap.size->D (u.heap.size+i)/\σ (u.heap.size+i)=w.heap.size+i)->
  QM σ D W0 R u w es (s.runT P' u es0).1 (s'.runT P w es):=by
 induction h with
 |pure h=>intro u w es0 es hw _ _;exact⟨h,hw,Turned.refl u w,#[],by simp,λe he=>by simp at he⟩
 | @load m a a' k k' ha hk ih=>
  intro u w es0 es hw hT hS
  simp only[Sem.runT]at hT hS⊢
  rcases hc:u.cell? a with _|v
  ·have o8:=vM hP hw ha hc (m== .atomic)
   revert o8
   rcases hx:u.farLoad P' a (m== .atomic)with er|⟨v,L⟩
   ·intro hb
    exact lI hb _
   ·rintro⟨L',h1,h2,hv,h3⟩
    simp only[h1,h2]at hT hS⊢
    exact(ih v v hv u w _ _ hw hT hS).then (Turned.refl u w) (λr h1 h2=>by omega) (l:=L'.toArray.map (⟨.cell ·,false,m== .atomic⟩)) rfl (λe he=>by
     obtain⟨x,hx,rfl⟩:=Array.mem_map.1 he
     exact h3 x (by simpa using hx))
  ·obtain⟨v',hc',hv⟩:=hw.cell ha hc
   simp only[hc']at hT hS⊢
   exact(ih v v' hv u w _ _ hw hT hS).then (Turned.refl u w) (λr h1 h2=>by omega) (l:= #[⟨.cell a',false,m== .atomic⟩]) (by simp) (λe he=>by rw[mem_push he];exact⟨a.block,ha.1,by rw[ha.2]⟩)
 | @store m a a' v v' k k' ha hv hk ih=>
  intro u w es0 es hw hT hS
  by_cases hn:(∃c,v=.agg c)\/(∃c,v=.tuple c)
  ·rcases hn with⟨c,rfl⟩|⟨c,rfl⟩<;>exact lI (h:=.stuck _) trivial _
  ·have hn1:DV v=false:=by cases v<;>first|rfl|exact absurd (.inl ⟨_,rfl⟩) hn|exact absurd (.inr ⟨_,rfl⟩) hn
   have e1:(Sem.store m a v k).runT P' u es0=(match u.cell? a with
    |some _=>if u.frozen? a then(.halt (.unsupported (.unsafePointer "a write to bytes that a string shares")) u,es0)else k.runT P' (u.setCell a v) (es0.push ⟨.cell a,true,m== .atomic⟩)
    |none=>match u.farStore P' a v (m== .atomic)with
     | .ok (w,touched)=>k.runT P' w (es0++touched.toArray.map (⟨.cell ·,true,m== .atomic⟩))
     | .error h=>(.halt h u,es0)):=by
    cases v<;>first|rfl|exact absurd (.inl ⟨_,rfl⟩) hn|exact absurd (.inr ⟨_,rfl⟩) hn
   have e2:(Sem.store m a' v' k').runT P w es=(match w.cell? a' with
    |some _=>if w.frozen? a' then(.halt (.unsupported (.unsafePointer "a write to bytes that a string shares")) w,es)else k'.runT P (w.setCell a' v') (es.push ⟨.cell a',true,m== .atomic⟩)
    |none=>match w.farStore P a' v' (m== .atomic)with
     | .ok (w,touched)=>k'.runT P w (es++touched.toArray.map (⟨.cell ·,true,m== .atomic⟩))
     | .error h=>(.halt h w,es)):=by
    cases hv<;>first|rfl|exact absurd (.inl ⟨_,rfl⟩) hn|exact absurd (.inr ⟨_,rfl⟩) hn
   rw[e2]at hT hS
   rw[e1,e2]
   rcases hc:u.cell? a with _|v0
   ·have o8:=uz hP hinj hw ha hc hv (m== .atomic)
    revert o8
    rcases hx:u.farStore P' a v (m== .atomic)with er|⟨u1,L⟩
    ·intro hb
     exact lI hb _
    ·rintro⟨w1,L',h1,h2,h3,h4,h5,h6,h7,h8,h9,h10,h11⟩
     simp only[h1,h2]at hT hS⊢
     refine(ih u1 w1 _ _ h3 (λi hi=> ?_) (λi hi=> ?_)).then h4 (λr h1 h2=>by omega) (l:=L'.toArray.map (⟨.cell ·,true,m== .atomic⟩)) rfl (λe he=>by
      obtain⟨x,hx,rfl⟩:=Array.mem_map.1 he
      exact h11 x (by simpa using hx))
     ·rw[h7,h9,h10,h8]
      rw[h8]at hi
      exact hT i hi
     ·rw[h5,h6]
      rw[h6]at hi
      exact hS i hi
   ·obtain⟨v1,hc',_⟩:=hw.cell ha hc
    have hf:=hw.frozen ha
    simp only[hc',hf]at hT hS⊢
    by_cases hfz:u.frozen? a=true
    ·simp only[hfz,if_true]
     exact lI (h:=.unsupported (.unsafePointer _)) trivial _
    ·simp only[if_neg hfz]at hT hS⊢
     refine(ih (u.setCell a v) (w.setCell a' v') _ _ (hw.set hinj ha hv hn1) hT (λi hi=> ?_)).then (LH ha (block_lt hc) v v') (λr h1 h2=> ?_) (l:= #[⟨.cell a',true,m== .atomic⟩]) (by simp) (λe he=>by rw[mem_push he];exact⟨a.block,ha.1,by rw[ha.2]⟩)
     ·have e3:(u.setCell a v).heap.size=u.heap.size:=by simp[World.setCell]
      have e4:(w.setCell a' v').heap.size=w.heap.size:=by simp[World.setCell]
      rw[e4]at hi
      rw[e3,e4]
      exact hS i hi
     ·have e3:(u.setCell a v).heap.size=u.heap.size:=by simp[World.setCell]
      omega
 | @new o o' k k' ho hk ih=>
  intro u w es0 es hw hT hS
  simp only[Sem.runT]at hT hS⊢
  have hg:=(gY P (k' w.heap.size) {w with heap:=w.heap.push o'} es).size
  simp only[Array.size_push]at hg
  obtain⟨hd,hs⟩:=hS 0 (by omega)
  simp only[Nat.add_zero]at hd hs
  have hih:=ih u.heap.size hd {u with heap:=u.heap.push o} {w with heap:=w.heap.push o'} es0 es (hw.push hinj ho hd hs) (by rw[hs];exact hT) (λi hi=>by
   rw[hs]at hi
   simp only[Array.size_push]at hi⊢
   have:=hS (i+1) (by omega)
   rw[show u.heap.size+1+i=u.heap.size+(i+1) by omega,show w.heap.size+1+i=w.heap.size+(i+1) by omega]
   exact this)
  rw[hs]at hih
  exact hih.then (Iu u w o o') (λr h1 h2=>by
   simp only[Array.size_push]at h2
   obtain rfl:r=u.heap.size:=by omega
   omega) (l:= #[]) (by simp) (λe he=>by simp at he)
 | @shape r k k' hd hk ih=>
  intro u w es0 es hw hT hS
  simp only[Sem.runT]at hT hS⊢
  rw[hw.shape hd]at hT hS⊢
  exact ih _ u w es0 es hw hT hS
 | @freeze a a' n k k' ha hk ih=>
  intro u w es0 es hw hT hS
  simp only[Sem.runT]at hT hS⊢
  have hsz:∀(w:World)(a:Addr),(w.freeze a n).heap.size=w.heap.size:=λw a=>by unfold World.freeze;split<;>simp
  have hdr:∀(w:World)(a:Addr),(w.freeze a n).drawn=w.drawn/\(w.freeze a n).tape=w.tape:=λw a=>by unfold World.freeze;split<;>exact⟨rfl,rfl⟩
  refine(ih (u.freeze a n) (w.freeze a' n) es0 es (hw.freeze hinj ha n) (λi hi=> ?_) (λi hi=> ?_)).then (DW hw ha n) (λr h1 h2=>by rw[hsz]at h2;omega) (l:= #[]) (by simp) (λe he=>by simp at he)
  ·rw[(hdr w a').1]at hi
   rw[(hdr u a).1,(hdr u a).2,(hdr w a').1,(hdr w a').2]
   exact hT i hi
  ·rw[hsz]at hi
   rw[hsz,hsz]
   exact hS i hi
 | @frozen a a' k k' ha hk ih=>
  intro u w es0 es hw hT hS
  simp only[Sem.runT]at hT hS⊢
  rw[hw.frozen ha]at hT hS⊢
  exact ih _ u w es0 es hw hT hS
 | @getObj r k k' hd hk ih=>
  intro u w es0 es hw hT hS
  simp only[Sem.runT]at hT hS⊢
  rcases ho:u.heap[r]? with _|o
  ·exact lI (h:=.stuck _) trivial _
  ·rcases hw.vI hd ho with⟨c,e,f,rfl⟩|⟨x,x',t,rfl,ho',hx⟩|⟨x,x',t,rfl,ho',hx⟩|⟨o',hm,hm',ho',hx⟩
   ·exact lI (h:=.stuck _) trivial _
   rotate_left
   rotate_left
   ·have hx2:=hx
    cases hx<;>first|(cases hm;done)|(simp only[ho']at hT hS⊢;exact(ih _ _ hx2 u w _ _ hw hT hS).then (Turned.refl u w) (λr h1 h2=>by omega) (l:= #[⟨.obj (σ r),false,false⟩]) (by simp[Obj.isChan]) (λe he=>by rw[mem_push he];exact⟨r,hd,rfl⟩))
   rotate_left
   ·simp only[ho']at hT hS⊢
    exact(ih _ _ (.number hx t) u w _ _ hw hT hS).then (Turned.refl u w) (λr h1 h2=>by omega) (l:= #[⟨.obj (σ r),false,false⟩]) (by simp[Obj.isChan]) (λe he=>by rw[mem_push he];exact⟨r,hd,rfl⟩)
   ·simp only[ho']at hT hS⊢
    exact(ih _ _ (.view hx t) u w _ _ hw hT hS).then (Turned.refl u w) (λr h1 h2=>by omega) (l:= #[⟨.obj (σ r),false,false⟩]) (by simp[Obj.isChan]) (λe he=>by rw[mem_push he];exact⟨r,hd,rfl⟩)
 | @setObj r o o' k k' hd ho hm hk ih=>
  intro u w es0 es hw hT hS
  simp only[Sem.runT]at hT hS⊢
  rcases hu:u.heap[r]? with _|o1
  ·exact lI (h:=.stuck _) trivial _
  ·have hlt:=(Array.getElem?_eq_some_iff.1 hu).1
   obtain⟨o1',h1,h2⟩:=hw.obj r o1 hd hu
   have fin:∀(es0:Array Event),(∀i,w.drawn+i<(qN (k'.runT P {w with heap:=w.heap.setIfInBounds (σ r) o'} (es.push ⟨.obj (σ r),true,o'.isChan⟩)).1).drawn->u.tape (u.drawn+i)=w.tape (w.drawn+i))->
     (∀i,w.heap.size+i<(qN (k'.runT P {w with heap:=w.heap.setIfInBounds (σ r) o'} (es.push ⟨.obj (σ r),true,o'.isChan⟩)).1).heap.size->D (u.heap.size+i)/\σ (u.heap.size+i)=w.heap.size+i)->
     QM σ D W0 _ u w es (k.runT P' {u with heap:=u.heap.setIfInBounds r o} es0).1 (k'.runT P {w with heap:=w.heap.setIfInBounds (σ r) o'} (es.push ⟨.obj (σ r),true,o'.isChan⟩)):=λes0 hT hS=>
    (ih {u with heap:=u.heap.setIfInBounds r o} {w with heap:=w.heap.setIfInBounds (σ r) o'} es0 _ (hw.setObj hinj hd ho hm hlt) hT (λi hi=>by
     have e1:({u with heap:=u.heap.setIfInBounds r o}:World).heap.size=u.heap.size:=by simp
     have e2:({w with heap:=w.heap.setIfInBounds (σ r) o'}:World).heap.size=w.heap.size:=by simp
     rw[e2]at hi
     rw[e1,e2]
     exact hS i hi)).then ⟨⟨by simp,Nat.le_refl _,rfl⟩,rfl,rfl,rfl,by simp,rfl,λb hb hr=>by
      dsimp only
      rw[Array.getElem?_setIfInBounds_ne (hr r hd hlt)]⟩ (λr h1 h2=>by simp at h2;omega) (l:= #[⟨.obj (σ r),true,o'.isChan⟩]) (by simp) (λe he=>by rw[mem_push he];exact⟨r,hd,rfl⟩)
   cases h2<;>first|exact lI (h:=.stuck _) trivial _|(simp only[h1]at hT hS⊢;exact fin _ hT hS)
 | @choose q k k' hk ih=>
  intro u w es0 es hw hT hS
  simp only[Sem.runT]at hT hS⊢
  by_cases hq:q.forced=true
  ·simp only[hq,if_true]at hT hS⊢
   exact ih 0 u w es0 es hw hT hS
  ·simp only[if_neg hq]at hT hS⊢
   have hg:=(gY P (k' (q.cut (w.tape w.drawn q))) {w with drawn:=w.drawn+1} es).drawn
   have h0:u.tape u.drawn=w.tape w.drawn:=hT 0 (by simp only[Nat.add_zero];exact hg)
   rw[h0]
   exact(ih _ {u with drawn:=u.drawn+1} {w with drawn:=w.drawn+1} es0 es ⟨hw.obj,hw.YR,hw.low,hw.orig,hw.os⟩ (λi hi=>by
    have:=hT (i+1) (by dsimp only at hi;rw[show w.drawn+(i+1)=w.drawn+1+i by omega];exact hi)
    dsimp only
    rw[show u.drawn+1+i=u.drawn+(i+1) by omega,show w.drawn+1+i=w.drawn+(i+1) by omega]
    exact this) hS).then (yU u w) (λr h1 h2=>by dsimp only at h2;omega) (l:= #[]) (by simp) (λe he=>by simp at he)
 |program hk ih=>intro u w es0 es hw hT hS;exact ih u w es0 es hw hT hS
 |uq hk ih=>intro u w es0 es hw hT hS;exact ih u w es0 es hw hT hS
 | @mark m m' k k' hm hk ih=>
  intro u w es0 es hw hT hS
  exact(ih u w _ _ hw hT hS).then (Turned.refl u w) (λr h1 h2=>by omega) (l:= #[⟨.mark m',false,true⟩]) (by simp) (λe he=>by rw[mem_push he];exact⟨m,hm⟩)
 |panic h=>intro u w es0 es hw _ _;exact⟨h,hw,Turned.refl u w,#[],by simp,λe he=>by simp at he⟩
 |dead h=>
  intro u w es0 es hw _ _
  obtain⟨h',w',e,hb⟩:=h.run P' u es0
  rw[e]
  exact lI hb _
end
end Go.Proofs.YtlncengggmgdgaaGreat.par
