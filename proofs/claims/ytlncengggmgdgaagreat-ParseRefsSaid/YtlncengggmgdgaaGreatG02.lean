/- The relation, operation by operation: the library's small steps. No conditions. -/
import Derived.Test.YtlncengggmgdgaaGreatG01
set_option linter.unusedVariables false
set_option linter.unusedSimpArgs false
namespace Go.Proofs.YtlncengggmgdgaaGreat.par
open Go
section
variable {σ : Nat → Nat} {D : Nat → Prop}
theorem iU{v:Value}(h:kD v=true):VR σ D v v:=by
 cases v with
 |bool b=>exact .bool b
 |int k n=>exact .int k n
 |float k n=>exact .float k n
 |complex k n m=>exact .complex k n m
 |string s=>exact .string s
 |pointer a=>cases a with
  |none=>exact .bT
  |some a=>simp[kD]at h
 |slice a l c=>cases a with
  |none=>exact .fK l c
  |some a=>simp[kD]at h
 |map r=>cases r with
  |none=>exact .jy
  |some a=>simp[kD]at h
 |chan r=>cases r with
  |none=>exact .jg
  |some a=>simp[kD]at h
 |func fn f c=>cases fn with
  |func k=>
   simp[kD]at h
   obtain⟨h0,rfl,rfl⟩:=h
   exact .func k rfl (λi x y hx=>by simp at hx) rfl (λi x y hx=>by simp at hx) h0
  |_=>simp[kD]at h
 |nilFunc=>exact .jh
 |iface t v=>simp[kD]at h
 |nilIface=>exact .iH
 |agg cs=>simp[kD]at h
 |tuple vs=>
  simp[kD]at h
  subst h
  exact .undef _ rfl
theorem LJ{v:Value}(h:LD v=true):VR σ D v v:=by
 unfold LD at h
 split at h
 ·refine .agg rfl (λi x y hx hy=> ?_)
  rw[hx]at hy
  cases hy
  rw[Array.all_eq_true_iff_forall_mem]at h
  exact iU (h x (Array.mem_of_getElem? hx))
 ·refine .tuple rfl (λi x y hx hy=> ?_)
  rw[hx]at hy
  cases hy
  rw[Array.all_eq_true_iff_forall_mem]at h
  exact iU (h x (Array.mem_of_getElem? hx))
 ·exact iU h
theorem mJ{cs:Array Value}(h:∀x∈cs,kD x=true):dI σ D cs cs:=⟨rfl,λi x y hx hy=>by rw[hx]at hy;cases hy;exact iU (h x (Array.mem_of_getElem? hx))⟩
theorem AR.add{a a':Addr}(h:AR σ D a a')(n:Nat):AR σ D (a.add n) (a'.add n):=by
 obtain⟨hd,rfl⟩:=h
 unfold Addr.add
 split
 ·exact⟨hd,rfl⟩
 ·exact⟨hd,rfl⟩
end
section
variable {σ : Nat → Nat} {D : Nat → Prop} {T : Tables} {F' F : Array Func}
theorem aj{α β:Type}{R:α->β->Prop}{w:String}{s:Sem β}:ay σ D (⟨T,F'⟩:Program) (⟨T,F⟩:Program) R (stuck w:Sem α) s:=.dead (.halt trivial)
theorem aA{α β:Type}{R:α->β->Prop}{w:Unsupported}{s:Sem β}(h:cZ (.unsupported w):=by trivial):ay σ D (⟨T,F'⟩:Program) (⟨T,F⟩:Program) R (unsupported w:Sem α) s:=.dead (.halt h)
theorem iC{α β γ:Type}{R:α->β->Prop}{w:String}{f:γ->Sem α}{s:Sem β}:ay σ D (⟨T,F'⟩:Program) (⟨T,F⟩:Program) R ((stuck w:Sem γ)>>=f) s:=.dead (.halt trivial)
theorem eF{α β γ:Type}{R:α->β->Prop}{w:Unsupported}{f:γ->Sem α}{s:Sem β}(h:cZ (.unsupported w):=by trivial):ay σ D (⟨T,F'⟩:Program) (⟨T,F⟩:Program) R ((unsupported w:Sem γ)>>=f) s:=.dead (.halt h)
theorem ak{α β:Type}{R:α->β->Prop}{a:α}{b:β}(h:R a b):ay σ D (⟨T,F'⟩:Program) (⟨T,F⟩:Program) R (Pure.pure a) (Pure.pure b):=.pure h
theorem dh{α β:Type}{R:α->β->Prop}{k:Program->Sem α}{k':Program->Sem β}(h:ay σ D (⟨T,F'⟩:Program) (⟨T,F⟩:Program) R (k ⟨T,F'⟩) (k' ⟨T,F⟩)):ay σ D (⟨T,F'⟩:Program) (⟨T,F⟩:Program) R (program>>=k) (program>>=k'):=.program h
theorem dA{α β:Type}{R:α->β->Prop}(t:TypeId){f:TypeDesc->Sem α}{f':TypeDesc->Sem β}(h:∀d,ay σ D (⟨T,F'⟩:Program) (⟨T,F⟩:Program) R (f d) (f' d)):ay σ D (⟨T,F'⟩:Program) (⟨T,F⟩:Program) R (underlying t>>=f) (underlying t>>=f'):=by
 have h0:ay σ D (⟨T,F'⟩:Program) (⟨T,F⟩:Program) Eq (underlying t) (underlying t):=by
  unfold underlying
  refine dh ?_
  have e:Program.underlying (⟨T,F'⟩:Program) t=Program.underlying (⟨T,F⟩:Program) t:=rfl
  rw[e]
  cases Program.underlying (⟨T,F⟩:Program) t with
  |some d=>exact ak rfl
  |none=>exact aj
 exact h0.bind (λa b e=>e▸h a)
theorem jv{α β:Type}{R:α->β->Prop}(t:TypeId){f:TypeInfo->Sem α}{f':TypeInfo->Sem β}(h:∀i,T.info? t=some i->ay σ D (⟨T,F'⟩:Program) (⟨T,F⟩:Program) R (f i) (f' i)):ay σ D (⟨T,F'⟩:Program) (⟨T,F⟩:Program) R (typeInfo t>>=f) (typeInfo t>>=f'):=by
 have h0:ay σ D (⟨T,F'⟩:Program) (⟨T,F⟩:Program) (λa b=>a=b/\T.info? t=some a) (typeInfo t) (typeInfo t):=by
  unfold typeInfo
  refine dh ?_
  show ay σ D (⟨T,F'⟩:Program) (⟨T,F⟩:Program) _ (match T.info? t with|some i=>Pure.pure i|none=>stuck "no such type") (match T.info? t with|some i=>Pure.pure i|none=>stuck "no such type")
  cases hi:T.info? t with
  |some i=>exact ak ⟨rfl,rfl⟩
  |none=>exact aj
 exact h0.bind (λa b⟨e,hi⟩=>e▸h a hi)
theorem bI{α β:Type}{R:α->β->Prop}(t:TypeId){f:Nat->Sem α}{f':Nat->Sem β}(h:∀i,ay σ D (⟨T,F'⟩:Program) (⟨T,F⟩:Program) R (f i) (f' i)):ay σ D (⟨T,F'⟩:Program) (⟨T,F⟩:Program) R (sizeOf t>>=f) (sizeOf t>>=f'):=by
 have h0:ay σ D (⟨T,F'⟩:Program) (⟨T,F⟩:Program) Eq (sizeOf t) (sizeOf t):=jv t (λi _=>ak rfl)
 exact h0.bind (λa b e=>e▸h a)
theorem Iw{α β:Type}{R:α->β->Prop}(t:TypeId){f:Bool->Sem α}{f':Bool->Sem β}(h:∀i,ay σ D (⟨T,F'⟩:Program) (⟨T,F⟩:Program) R (f i) (f' i)):ay σ D (⟨T,F'⟩:Program) (⟨T,F⟩:Program) R (isAgg t>>=f) (isAgg t>>=f'):=by
 have h0:ay σ D (⟨T,F'⟩:Program) (⟨T,F⟩:Program) Eq (isAgg t) (isAgg t):=dA t (λd=>by cases d<;>exact ak rfl)
 exact h0.bind (λa b e=>e▸h a)
theorem Ad(m:Mode){a a':Addr}(h:AR σ D a a'):ay σ D (⟨T,F'⟩:Program) (⟨T,F⟩:Program) (VR σ D) (load a m) (load a' m):=.load h (λv v' hv=>.pure hv)
theorem Iy(m:Mode){a a':Addr}(h:AR σ D a a'){v v':Value}(hv:VR σ D v v'):ay σ D (⟨T,F'⟩:Program) (⟨T,F⟩:Program) (λ_ _=>True) (store a v m) (store a' v' m):=.store h hv (.pure trivial)
theorem lJ{a a':Addr}(h:AR σ D a a'):∀(n i:Nat)(c c':Array Value),dI σ D c c'->ay σ D (⟨T,F'⟩:Program) (⟨T,F⟩:Program) (dI σ D) (loadCellsFrom a i n c) (loadCellsFrom a' i n c')
 |0,i,c,c',hc=>ak hc
 |n+1,i,c,c',hc=>by
  unfold loadCellsFrom
  exact(Ad .plain (h.add i)).bind (λv v' hv=>lJ h n (i+1) _ _ (hc.push hv))
theorem nY{a a':Addr}(h:AR σ D a a'):∀(vs vs':List Value)(i:Nat),vs.length=vs'.length->(∀(j:Nat)(x y:Value),vs[j]? =some x->vs'[j]? =some y->VR σ D x y)->ay σ D (⟨T,F'⟩:Program) (⟨T,F⟩:Program) (λ_ _=>True) (storeCells a vs i) (storeCells a' vs' i)
 |[],[],i,_,_=>by unfold storeCells;exact ak trivial
 |v::vs,v'::vs',i,hl,hv=>by
  unfold storeCells
  exact(Iy .plain (h.add i) (hv 0 v v' rfl rfl)).bind (λ_ _ _=>nY h vs vs' (i+1) (by simpa using hl) (λj x y hx hy=>hv (j+1) x y (by simpa using hx) (by simpa using hy)))
 |[],v'::vs',i,hl,_=>by simp at hl
 |v::vs,[],i,hl,_=>by simp at hl
theorem AZ(t:TypeId){a a':Addr}(h:AR σ D a a'):ay σ D (⟨T,F'⟩:Program) (⟨T,F⟩:Program) (VR σ D) (loadVar t a) (loadVar t a'):=by
 unfold loadVar
 refine Iw t (λb=> ?_)
 cases b
 ·exact Ad .plain h
 ·refine bI t (λn=> ?_)
  refine(lJ h n 0 #[] #[] ⟨rfl,λi x y hx=>by simp at hx⟩).bind (λc c' hc=>ak (.agg hc.1 hc.2))
theorem iV{v v':Value}(h:VR σ D v v'):dI σ D v.cells v'.cells:=by
 have one:∀{v v':Value},VR σ D v v'->dI σ D #[v] #[v']:=λ{v v'}h=>⟨rfl,λi x y hx hy=>by
  rcases i with _|i
  ·simp at hx hy;subst hx hy;exact h
  ·simp at hx⟩
 cases h with
 |agg h1 h2=>exact⟨h1,h2⟩
 |undef v hn=>
  have e:v'.cells= #[v']:=by cases v'<;>first|rfl|cases hn
  rw[e]
  exact one (.undef v' hn)
 |ptr h=>exact one (.ptr h)
 |slice h l c=>exact one (.slice h l c)
 |map h=>exact one (.map h)
 |func fn h1 h2 h3 h4 h0=>exact one (.func fn h1 h2 h3 h4 h0)
 |weird m f c=>exact one (.weird m f c)
 |yield h=>exact one (.yield h)
 |iface t h=>exact one (.iface t h)
 |tuple h1 h2=>exact one (.tuple h1 h2)
 |bool b=>exact one (.bool b)
 |int k n=>exact one (.int k n)
 |float k n=>exact one (.float k n)
 |complex k n m=>exact one (.complex k n m)
 |string s=>exact one (.string s)
 |bT=>exact one .bT
 |fK l c=>exact one (.fK l c)
 |jy=>exact one .jy
 |jg=>exact one .jg
 |jh=>exact one .jh
 |iH=>exact one .iH
end
end Go.Proofs.YtlncengggmgdgaaGreat.par
namespace Go.Proofs.YtlncengggmgdgaaGreat.par
open Go
def okE:RuntimeError->Bool
 | .bounds .. | .error _| .plain _| .nilDeref=>true
 |_=>false
def oq(v:Value):Prop:=∀(σ:Nat->Nat)(D:Nat->Prop),VR σ D v v
def ZP(T:Tables):Prop:=(∀t i v,T.info? t=some i->i.zero=some v->oq v)/\(∀i,T.info? UC=some i->i.methods.find? (λm=>m.name== "")=none)/\T=vG
section
variable {σ : Nat → Nat} {D : Nat → Prop} {T : Tables} {F' F : Array Func}
theorem sG(e:TypeId){c c':Array Value}(h:dI σ D c c'):ay σ D (⟨T,F'⟩:Program) (⟨T,F⟩:Program) (AR σ D) (newRow e c) (newRow e c'):=.new (.cells h e (0,0)) (λr hd=>.pure ⟨hd,rfl⟩)
theorem xU(e:TypeId){v v':Value}(h:VR σ D v v'):ay σ D (⟨T,F'⟩:Program) (⟨T,F⟩:Program) (AR σ D) (newVar e v) (newVar e v'):=sG e (iV h)
theorem o9(hz:ZP T)(t:TypeId):ay σ D (⟨T,F'⟩:Program) (⟨T,F⟩:Program) (λa b=>a=b/\oq a) (zeroValue t) (zeroValue t):=by
 unfold zeroValue
 refine jv t (λi hi=> ?_)
 cases h:i.zero with
 |some v=>exact ak ⟨rfl,hz.1 t i v hi h⟩
 |none=>exact aA
theorem pq{v v':Value}(h:VR σ D v v'):ay σ D (⟨T,F'⟩:Program) (⟨T,F⟩:Program) Eq (asIntOf v) (asIntOf v'):=by
 cases h<;>first|exact ak rfl|exact aj|exact aA
theorem mM{v v':Value}(h:VR σ D v v'):ay σ D (⟨T,F'⟩:Program) (⟨T,F⟩:Program) Eq (asInt v) (asInt v'):=(pq h).bind (λa b e=>ak (by rw[e]))
theorem Ei{v v':Value}(h:VR σ D v v'):ay σ D (⟨T,F'⟩:Program) (⟨T,F⟩:Program) Eq (asBool v) (asBool v'):=by
 cases h<;>first|exact ak rfl|exact aj
theorem UO{v v':Value}(h:VR σ D v v'):ay σ D (⟨T,F'⟩:Program) (⟨T,F⟩:Program) (dI σ D) (asAgg v) (asAgg v'):=by
 cases h with
 |agg h1 h2=>exact ak ⟨h1,h2⟩
 |_=>exact aj
theorem vN{v v':Value}(h:VR σ D v v'):ay σ D (⟨T,F'⟩:Program) (⟨T,F⟩:Program) (AR σ D) (Instr.sureAddr v) (Instr.sureAddr v'):=by
 cases h with
 |ptr h=>exact ak h
 |_=>exact aj
theorem pz{α β:Type}{R:α->β->Prop}{v v':Value}(h:VR σ D v v'):ay σ D (⟨T,F'⟩:Program) (⟨T,F⟩:Program) R (goPanic v:Sem α) (goPanic v':Sem β):=.panic h
theorem UQ{c:Array Value}(h:∀x∈c,kD x=true):VR σ D (.agg c) (.agg c):=.agg rfl (mJ (σ:=σ) (D:=D) h).2
theorem dJ{α β:Type}{R:α->β->Prop}(e:RuntimeError)(he:okE e=true):ay σ D (⟨T,F'⟩:Program) (⟨T,F⟩:Program) R (runtimePanic e:Sem α) (runtimePanic e:Sem β):=by
 unfold runtimePanic
 refine dh ?_
 cases e with
 |bounds x y s c=>exact pz (.iface _ (UQ (by simp[kD])))
 |error m=>exact pz (.iface _ (.string _))
 |plain m=>exact pz (.iface _ (.string _))
 |nilDeref=>exact pz (.iface _ (.string _))
 |_=>cases he
theorem sH{v v':Value}(h:VR σ D v v'):ay σ D (⟨T,F'⟩:Program) (⟨T,F⟩:Program) (AR σ D) (asAddr v) (asAddr v'):=by
 cases h with
 |ptr h=>exact ak h
 |bT=>exact dJ .nilDeref rfl
 |_=>exact aj
theorem sJ(q:Question):ay σ D (⟨T,F'⟩:Program) (⟨T,F⟩:Program) Eq (choose q) (choose q):=.choose (λn=>.pure rfl)
theorem lY{α β:Type}{R:α->β->Prop}(k:IntKind)(x y:Int)(c:BoundsCode):ay σ D (⟨T,F'⟩:Program) (⟨T,F⟩:Program) R (boundsPanic k x y c:Sem α) (boundsPanic k x y c:Sem β):=by
 unfold boundsPanic
 split
 ·exact ay.bind (R:=Eq) ((sJ _).bind (λa b e=>ak (by rw[e]))) (λa b e=>by subst e;exact dJ (.bounds _ _ a c) rfl)
 ·exact ay.bind (R:=Eq) (ak rfl) (λa b e=>by subst e;exact dJ (.bounds _ _ a c) rfl)
theorem QN(t:TypeId){v v':Value}(h:VR σ D v v'):ay σ D (⟨T,F'⟩:Program) (⟨T,F⟩:Program) (VR σ D) (Instr.loadAt t v) (Instr.loadAt t v'):=(vN h).bind (λa b hab=>AZ t hab)
theorem Iz(t:TypeId){a a':Addr}(h:AR σ D a a'){v v':Value}(hv:VR σ D v v'):ay σ D (⟨T,F'⟩:Program) (⟨T,F⟩:Program) (λ_ _=>True) (storeVar t a v) (storeVar t a' v'):=by
 unfold storeVar
 refine bI t (λn=> ?_)
 have hc:=iV hv
 rw[hc.1]
 split
 ·exact aj
 ·refine nY h _ _ 0 (by simpa using hc.1) (λj x y hx hy=>hc.2 j x y (by simpa using hx) (by simpa using hy))
theorem LK(t:TypeId){v v' x x':Value}(h:VR σ D v v')(hx:VR σ D x x'):ay σ D (⟨T,F'⟩:Program) (⟨T,F⟩:Program) (λ_ _=>True) (Instr.storeAt t v x) (Instr.storeAt t v' x'):=(vN h).bind (λa b hab=>Iz t hab hx)
theorem UR(hz:ZP T)(t:TypeId):ay σ D (⟨T,F'⟩:Program) (⟨T,F⟩:Program) (VR σ D) (Instr.alloc t true (.tuple #[])) (Instr.alloc t true (.tuple #[])):=by
 unfold Instr.alloc
 exact(o9 hz t).bind (λa b⟨e,h⟩=>by subst e;exact(xU t (h σ D)).bind (λx y hxy=>ak (.ptr hxy)))
theorem acn(t:TypeId){v v':Value}(h:VR σ D v v'):ay σ D (⟨T,F'⟩:Program) (⟨T,F⟩:Program) (VR σ D) (Instr.box t v) (Instr.box t v'):=(xU t h).bind (λx y hxy=>ak (.ptr hxy))
theorem LU{v v':Value}(h:VR σ D v v')(i:Nat):ay σ D (⟨T,F'⟩:Program) (⟨T,F⟩:Program) (VR σ D) (Instr.extract v i) (Instr.extract v' i):=by
 cases h with
 |tuple h1 h2=>
  rename_i c c'
  unfold Instr.extract
  dsimp only
  rcases hi:c[i]? with _|x
  ·exact aj
  ·obtain⟨y,hy,hxy⟩:=AQ.get (R:=VR σ D) ⟨h1,h2⟩ hi
   rw[hy]
   exact ak hxy
 |undef v hv=>
  unfold Instr.extract
  simp only[List.getElem?_toArray,List.getElem?_nil]
  exact aj
 |_=>exact aj
theorem UU{x x' i i':Value}(t:TypeId)(hx:VR σ D x x')(hi:VR σ D i i'):ay σ D (⟨T,F'⟩:Program) (⟨T,F⟩:Program) (VR σ D) (Instr.indexAt t x i) (Instr.indexAt t x' i'):=by
 unfold Instr.indexAt
 refine(pq hi).bind (λa b e=> ?_)
 subst e
 obtain⟨k,n⟩:=a
 dsimp only
 refine dA t (λd=> ?_)
 cases d with
 |array len elem=>
  refine(vN hx).bind (λa b hab=> ?_)
  refine ay.bind (R:=λp q=>p=(some a,len,elem)/\q=(some b,len,elem)) (ak ⟨rfl,rfl⟩) ?_
  rintro _ _ ⟨rfl,rfl⟩
  refine dA t (λd=> ?_)
  dsimp only
  repeat' split
  all_goals first|exact aA|exact lY _ _ _ _|exact bI _ (λs=>ak (.ptr (hab.add _)))
 |slice elem=>
  cases hx with
  |fK l c=>
   refine ay.bind (R:=λp q=>p=(none,l,elem)/\q=(none,l,elem)) (ak ⟨rfl,rfl⟩) ?_
   rintro _ _ ⟨rfl,rfl⟩
   refine dA t (λd=> ?_)
   exact lY _ _ _ _
  | @slice a b hab l c=>
   refine ay.bind (R:=λp q=>p=(some a,l,elem)/\q=(some b,l,elem)) (ak ⟨rfl,rfl⟩) ?_
   rintro _ _ ⟨rfl,rfl⟩
   refine dA t (λd=> ?_)
   dsimp only
   repeat' split
   all_goals first|exact aA|exact lY _ _ _ _|exact bI _ (λs=>ak (.ptr (hab.add _)))
  |_=>exact iC
 |_=>exact iC
theorem ig{r:Nat}(h:D r):ay σ D (⟨T,F'⟩:Program) (⟨T,F⟩:Program) Eq (shape r) (shape (σ r)):=.shape h (λs=>.pure rfl)
theorem sK{a a':Addr}(h:AR σ D a a'):ay σ D (⟨T,F'⟩:Program) (⟨T,F⟩:Program) Eq (frozen a) (frozen a'):=.frozen h (λs=>.pure rfl)
inductive VwR(σ:Nat->Nat)(D:Nat->Prop):Option (Addr×TypeId)->Option (Addr×TypeId)->Prop
 |none:VwR σ D none none
 |some {a a':Addr} (h:AR σ D a a') (t:TypeId):VwR σ D (some (a,t)) (some (a',t))
theorem sN{r:Nat}(h:D r):ay σ D (⟨T,F'⟩:Program) (⟨T,F⟩:Program) (VwR σ D) (viewAt r) (viewAt (σ r)):=by
 unfold viewAt
 refine(ig h).bind (λa b e=> ?_)
 subst e
 split
 ·exact ak .none
 ·refine .getObj h (λo o' ho=> ?_)
  cases ho with
  |view ha t=>exact ak (.some ha t)
  |_=>exact ak .none
theorem xW{a a':Addr}(h:AR σ D a a'):ay σ D (⟨T,F'⟩:Program) (⟨T,F⟩:Program) (λ_ _=>True) (noView a) (noView a'):=by
 unfold noView
 have e:a'.block=σ a.block:=by rw[h.2]
 rw[e]
 refine(sN h.1).bind (λx y hxy=> ?_)
 cases hxy with
 |none=>exact ak trivial
 |some ha t=>exact aA
theorem kH{a a':Addr}(h:AR σ D a a'):ay σ D (⟨T,F'⟩:Program) (⟨T,F⟩:Program) Eq (byteOf a) (byteOf a'):=by
 unfold byteOf
 have e1:a'.block=σ a.block:=by rw[h.2]
 have e2:a'.spot=a.spot:=by rw[h.2]
 have e3:a'.off=a.off:=by rw[h.2]
 rw[e1,e2,e3]
 split
 ·exact ak rfl
 ·refine dh ?_
  refine(xW h).bind (λ_ _ _=> ?_)
  refine(ig h.1).bind (λs s' e=> ?_)
  subst e
  cases s with
  |none=>exact aj
  |some x=>
   obtain⟨e,n⟩:=x
   show ay σ D (⟨T,F'⟩:Program) (⟨T,F⟩:Program) Eq (if(⟨T,F⟩:Program).cellsOf e=0 then Pure.pure 0 else match byteOfCell (⟨T,F'⟩:Program) (⟨T,F⟩:Program).depth e (a.off%(⟨T,F⟩:Program).cellsOf e)with|some b=>Pure.pure (a.off/(⟨T,F⟩:Program).cellsOf e*(⟨T,F⟩:Program).bytesOf e+b)|_=>stuck "byteOf: no such cell") (if(⟨T,F⟩:Program).cellsOf e=0 then Pure.pure 0 else match byteOfCell (⟨T,F⟩:Program) (⟨T,F⟩:Program).depth e (a.off%(⟨T,F⟩:Program).cellsOf e)with|some b=>Pure.pure (a.off/(⟨T,F⟩:Program).cellsOf e*(⟨T,F⟩:Program).bytesOf e+b)|_=>stuck "byteOf: no such cell")
   rw[ji (F':=F') (F:=F)]
   split
   ·exact ak rfl
   ·split
    ·exact ak rfl
    ·exact aj
theorem QO{a a':Addr}(h:AR σ D a a')(c b:Nat):ay σ D (⟨T,F'⟩:Program) (⟨T,F⟩:Program) (AR σ D) (partAt a c b) (partAt a' c b):=by
 unfold partAt
 have e1:a'.block=σ a.block:=by rw[h.2]
 have e3:a'.off=a.off:=by rw[h.2]
 refine(kH h).bind (λx y e=> ?_)
 subst e
 have h2:AR σ D {block:=a.block,off:=a.off+c} {block:=a'.block,off:=a'.off+c}:=⟨h.1,by rw[e1,e3]⟩
 refine(kH h2).bind (λx2 y2 e=> ?_)
 subst e
 refine ak ?_
 split
 ·exact h2
 ·exact⟨h.1,by rw[e1,e3]⟩
theorem DX{a a':Addr}(h:AR σ D a a')(f:Field):ay σ D (⟨T,F'⟩:Program) (⟨T,F⟩:Program) (AR σ D) (fieldPlace a f) (fieldPlace a' f):=by
 unfold fieldPlace
 refine bI _ (λn=> ?_)
 split
 ·exact QO h _ _
 ·exact ak (h.add _)
theorem LV(s:TypeId){v v':Value}(h:VR σ D v v')(i:Nat):ay σ D (⟨T,F'⟩:Program) (⟨T,F⟩:Program) (VR σ D) (Instr.fieldAt s v i) (Instr.fieldAt s v' i):=by
 unfold Instr.fieldAt
 refine dA s (λd=> ?_)
 cases d with
 |struct fields=>
  dsimp only
  cases fields[i]? with
  |none=>exact aj
  |some f=>exact(vN h).bind (λa b hab=>(DX hab f).bind (λx y hxy=>ak (.ptr hxy)))
 |_=>exact aj
theorem dI.extract{c c':Array Value}(h:dI σ D c c')(i j:Nat):dI σ D (c.extract i j) (c'.extract i j):=by
 refine⟨by simp[h.1],λk x y hx hy=> ?_⟩
 rw[Array.getElem?_extract]at hx hy
 rw[h.1]at hx
 split at hx
 ·rename_i hlt
  rw[if_pos hlt]at hy
  exact h.2 _ x y hx hy
 ·cases hx
theorem nJ(t:TypeId){c c':Array Value}(h:dI σ D c c')(off:Nat):ay σ D (⟨T,F'⟩:Program) (⟨T,F⟩:Program) (VR σ D) (part t c off) (part t c' off):=by
 unfold part
 refine Iw t (λb=> ?_)
 cases b
 ·rcases hi:c[off]? with _|x
  ·exact aj
  ·obtain⟨y,hy,hxy⟩:=AQ.get h hi
   simp only[hy]
   exact ak hxy
 ·refine bI t (λn=>ak ?_)
  have:=dI.extract h off (off+n)
  exact .agg this.1 this.2
theorem UW(t:TypeId){v v':Value}(h:VR σ D v v')(i:Nat):ay σ D (⟨T,F'⟩:Program) (⟨T,F⟩:Program) (VR σ D) (Instr.field t v i) (Instr.field t v' i):=by
 unfold Instr.field
 refine dA t (λd=> ?_)
 cases d with
 |struct fields=>
  dsimp only
  cases fields[i]? with
  |none=>exact aj
  |some f=>exact(UO h).bind (λa b hab=>nJ _ hab _)
 |_=>exact aj
theorem aco(t:TypeId){v v' i i':Value}(h:VR σ D v v')(hi:VR σ D i i'):ay σ D (⟨T,F'⟩:Program) (⟨T,F⟩:Program) (VR σ D) (Instr.index t v i) (Instr.index t v' i'):=by
 unfold Instr.index
 refine(pq hi).bind (λa b e=> ?_)
 subst e
 obtain⟨k,n⟩:=a
 refine dA t (λd=> ?_)
 cases d with
 |array len elem=>
  cases h with
  |agg h1 h2=>
   dsimp only
   split
   ·exact bI _ (λs=>nJ _ ⟨h1,h2⟩ _)
   ·exact lY _ _ _ _
  |_=>exact aj
 |string=>
  cases h with
  |string s=>
   dsimp only
   split
   ·exact ak (.int _ _)
   ·exact lY _ _ _ _
  |_=>exact aj
 |_=>exact aj
end
end Go.Proofs.YtlncengggmgdgaaGreat.par
namespace Go.Proofs.YtlncengggmgdgaaGreat.par
open Go
def tp(w:World)(τ:Nat->Question->Nat):World:={w with tape:=τ}
def tpR{α:Type}(τ:Nat->Question->Nat):Result α->Result α
 | .ok a w=>.ok a (tp w τ)
 | .halt h w=>.halt h (tp w τ)
def Agree(τ τ':Nat->Question->Nat)(a b:Nat):Prop:=∀j,a<=j->j<b->τ j=τ' j
theorem Agree.sub{τ τ':Nat->Question->Nat}{a b c d:Nat}(h:Agree τ τ' a b)(h1:a<=c)(h2:d<=b):Agree τ τ' c d:=λj h3 h4=>h j (by omega) (by omega)
theorem lK(p:Program)(w:World)(a:Addr)(b:Bool)(τ:Nat->Question->Nat):(tp w τ).farLoad p a b=w.farLoad p a b:=rfl
theorem DY(p:Program)(w:World)(a:Addr)(v:Value)(b:Bool)(τ:Nat->Question->Nat):(tp w τ).farStore p a v b=(match w.farStore p a v b with| .ok (w',L)=>.ok (tp w' τ,L)| .error e=>.error e):=by
 unfold World.farStore
 have e:(tp w τ).heap=w.heap:=rfl
 rw[e]
 rcases w.heap[a.block]? with _|o
 ·rfl
 cases o<;>first|rfl|skip
 dsimp only
 rw[lF,lF]
 have e2:∀(x:Addr)(t:TypeId),(tp w τ).seen p x t a b=w.seen p x t a b:=λ_ _=>rfl
 rw[e2]
 rename_i x t
 by_cases ht:(!tight p p.depth t)=true
 ·rw[if_pos ht,if_pos ht]
 rw[if_neg ht,if_neg ht]
 rcases w.seen p x t a b with er|⟨c,e,fr,first,like,L⟩
 ·rfl
 dsimp only
 rcases v.bytes? with _|bytes
 ·rfl
 dsimp only
 by_cases hl:some bytes.length≠Option.map (λ(x:List UInt8)=>x.length) like.bytes?
 ·rw[if_pos hl,if_pos hl]
 rw[if_neg hl,if_neg hl]
 rcases List.foldlM (qQ fr first bytes) c L with er|c1<;>rfl
theorem IB(w:World)(a:Addr)(n:Nat)(τ:Nat->Question->Nat):(tp w τ).freeze a n=tp (w.freeze a n) τ:=by
 unfold World.freeze
 split<;>rfl
theorem Dead.tape{α:Type}{s:Sem α}(h:Dead s)(P:Program):∀(w:World)(es:Array Event)(τ:Nat->Question->Nat),Agree τ w.tape w.drawn (qN (s.runT P w es).1).drawn->s.runT P (tp w τ) es=(tpR τ (s.runT P w es).1,(s.runT P w es).2):=by
 induction h with
 |halt hb=>intro w es τ _;rfl
 |shape _ ih=>intro w es τ h;exact ih _ w _ τ h
 |frozen _ ih=>intro w es τ h;exact ih _ w _ τ h
 | @choose q k _ ih=>
  intro w es τ h
  simp only[Sem.runT]at h⊢
  by_cases hq:q.forced=true
  ·rw[if_pos hq]at h⊢
   rw[if_pos hq]
   exact ih _ w _ τ h
  ·rw[if_neg hq]at h⊢
   rw[if_neg hq]
   have hg:=(gY P (k (q.cut (w.tape w.drawn q))) {w with drawn:=w.drawn+1} es).drawn
   dsimp only at hg
   have e:τ w.drawn=w.tape w.drawn:=h w.drawn (Nat.le_refl _) (by omega)
   have e2:(tp w τ).tape (tp w τ).drawn=w.tape w.drawn:=e
   rw[e2]
   exact ih _ {w with drawn:=w.drawn+1} _ τ (h.sub (Nat.le_succ _) (Nat.le_refl _))
 |program _ ih=>intro w es τ h;exact ih _ w _ τ h
 |mark _ ih=>intro w es τ h;exact ih w _ τ h
section
variable {σ : Nat → Nat} {D : Nat → Prop} {W0 : World}
theorem ay.tape{α β:Type}{P' P:Program}{R:α->β->Prop}(hP:P'.toTables=P.toTables)(hinj:∀r r',D r->D r'->σ r=σ r'->r=r'){s:Sem α}{s':Sem β}(h:ay σ D P' P R s s'):∀(u w:World)(es0 es:Array Event),WR σ D W0 u w->
  (∀i,w.drawn+i<(qN (s'.runT P w es).1).drawn->u.tape (u.drawn+i)=w.tape (w.drawn+i))->
  (∀i,w.heap.size+i<(qN (s'.runT P w es).1).heap.size->D (u.heap.size+i)/\σ (u.heap.size+i)=w.heap.size+i)->
  ∀τ,Agree τ u.tape u.drawn (qN (s.runT P' u es0).1).drawn->s.runT P' (tp u τ) es0=(tpR τ (s.runT P' u es0).1,(s.runT P' u es0).2):=by
 induction h with
 |pure h=>intro u w es0 es hw _ _ τ _;rfl
 | @load m a a' k k' ha hk ih=>
  intro u w es0 es hw hT hS τ hτ
  have e1:(tp u τ).cell? a=u.cell? a:=rfl
  simp only[Sem.runT,lK,e1]at hT hS hτ⊢
  rcases hc:u.cell? a with _|v
  ·have o8:=vM hP hw ha hc (m== .atomic)
   revert o8
   rw[hc]at hτ
   rcases hx:u.farLoad P' a (m== .atomic)with er|⟨v,L⟩
   ·intro hb;rfl
   ·rintro⟨L',h1,h2,hv,h3⟩
    rw[hx]at hτ
    simp only[h1,h2]at hT hS hτ⊢
    exact ih v v hv u w _ _ hw hT hS τ hτ
  ·obtain⟨v',hc',hv⟩:=hw.cell ha hc
   rw[hc]at hτ
   simp only[hc']at hT hS hτ⊢
   exact ih v v' hv u w _ _ hw hT hS τ hτ
 | @store m a a' v v' k k' ha hv hk ih=>
  intro u w es0 es hw hT hS τ hτ
  by_cases hn:(∃c,v=.agg c)\/(∃c,v=.tuple c)
  ·rcases hn with⟨c,rfl⟩|⟨c,rfl⟩<;>rfl
  ·have hn1:DV v=false:=by cases v<;>first|rfl|exact absurd (.inl ⟨_,rfl⟩) hn|exact absurd (.inr ⟨_,rfl⟩) hn
   have e1:∀u,(Sem.store m a v k).runT P' u es0=(match u.cell? a with
    |some _=>if u.frozen? a then(.halt (.unsupported (.unsafePointer "a write to bytes that a string shares")) u,es0)else k.runT P' (u.setCell a v) (es0.push ⟨.cell a,true,m== .atomic⟩)
    |none=>match u.farStore P' a v (m== .atomic)with
     | .ok (w,touched)=>k.runT P' w (es0++touched.toArray.map (⟨.cell ·,true,m== .atomic⟩))
     | .error h=>(.halt h u,es0)):=by
    intro u
    cases v<;>first|rfl|exact absurd (.inl ⟨_,rfl⟩) hn|exact absurd (.inr ⟨_,rfl⟩) hn
   have e2:(Sem.store m a' v' k').runT P w es=(match w.cell? a' with
    |some _=>if w.frozen? a' then(.halt (.unsupported (.unsafePointer "a write to bytes that a string shares")) w,es)else k'.runT P (w.setCell a' v') (es.push ⟨.cell a',true,m== .atomic⟩)
    |none=>match w.farStore P a' v' (m== .atomic)with
     | .ok (w,touched)=>k'.runT P w (es++touched.toArray.map (⟨.cell ·,true,m== .atomic⟩))
     | .error h=>(.halt h w,es)):=by
    cases hv<;>first|rfl|exact absurd (.inl ⟨_,rfl⟩) hn|exact absurd (.inr ⟨_,rfl⟩) hn
   have e3:(tp u τ).cell? a=u.cell? a:=rfl
   have e4:(tp u τ).frozen? a=u.frozen? a:=rfl
   rw[e2]at hT hS
   rw[e1]at hτ
   rw[e1,e1,e3,e4,DY]
   rcases hc:u.cell? a with _|v0
   ·have o8:=uz hP hinj hw ha hc hv (m== .atomic)
    revert o8
    rw[hc]at hτ
    rcases hx:u.farStore P' a v (m== .atomic)with er|⟨u1,L⟩
    ·intro hb;rfl
    ·rintro⟨w1,L',h1,h2,h3,h4,h5,h6,h7,h8,h9,h10,h11⟩
     rw[hx]at hτ
     simp only[h1,h2]at hT hS hτ⊢
     refine ih u1 w1 _ (es++L'.toArray.map (⟨.cell ·,true,m== .atomic⟩)) h3 ?_ ?_ τ (by rw[h9,h7];exact hτ)
     ·intro i hi
      rw[h7,h9,h10,h8]
      rw[h8]at hi
      exact hT i hi
     ·intro i hi
      rw[h5,h6]
      rw[h6]at hi
      exact hS i hi
   ·obtain⟨v1,hc',_⟩:=hw.cell ha hc
    have hf:=hw.frozen ha
    rw[hc]at hτ
    simp only[hc',hf]at hT hS hτ⊢
    by_cases hfz:u.frozen? a=true
    ·simp only[hfz,if_true];rfl
    ·simp only[if_neg hfz]at hT hS hτ⊢
     refine ih (u.setCell a v) (w.setCell a' v') _ (es.push ⟨.cell a',true,m== .atomic⟩) (hw.set hinj ha hv hn1) hT ?_ τ hτ
     intro i hi
     have e3:(u.setCell a v).heap.size=u.heap.size:=by simp[World.setCell]
     have e4:(w.setCell a' v').heap.size=w.heap.size:=by simp[World.setCell]
     rw[e4]at hi
     rw[e3,e4]
     exact hS i hi
 | @new o o' k k' ho hk ih=>
  intro u w es0 es hw hT hS τ hτ
  simp only[Sem.runT]at hT hS hτ⊢
  have hg:=(gY P (k' w.heap.size) {w with heap:=w.heap.push o'} es).size
  simp only[Array.size_push]at hg
  obtain⟨hd,hs⟩:=hS 0 (by omega)
  simp only[Nat.add_zero]at hd hs
  exact ih u.heap.size hd {u with heap:=u.heap.push o} {w with heap:=w.heap.push o'} es0 es (hw.push hinj ho hd hs) (by rw[hs];exact hT) (λi hi=>by
   rw[hs]at hi
   simp only[Array.size_push]at hi⊢
   have:=hS (i+1) (by omega)
   rw[show u.heap.size+1+i=u.heap.size+(i+1) by omega,show w.heap.size+1+i=w.heap.size+(i+1) by omega]
   exact this) τ hτ
 | @shape r k k' hd hk ih=>
  intro u w es0 es hw hT hS τ hτ
  simp only[Sem.runT]at hT hS hτ⊢
  rw[hw.shape hd]at hT hS
  exact ih _ u w es0 es hw hT hS τ hτ
 | @freeze a a' n k k' ha hk ih=>
  intro u w es0 es hw hT hS τ hτ
  simp only[Sem.runT]at hT hS hτ⊢
  have hsz:∀(w:World)(a:Addr),(w.freeze a n).heap.size=w.heap.size:=λw a=>by unfold World.freeze;split<;>simp
  have hdr:∀(w:World)(a:Addr),(w.freeze a n).drawn=w.drawn/\(w.freeze a n).tape=w.tape:=λw a=>by unfold World.freeze;split<;>exact⟨rfl,rfl⟩
  rw[IB]
  refine ih (u.freeze a n) (w.freeze a' n) es0 es (hw.freeze hinj ha n) (λi hi=> ?_) (λi hi=> ?_) τ (by rw[(hdr u a).1,(hdr u a).2];exact hτ)
  ·rw[(hdr w a').1]at hi
   rw[(hdr u a).1,(hdr u a).2,(hdr w a').1,(hdr w a').2]
   exact hT i hi
  ·rw[hsz]at hi
   rw[hsz,hsz]
   exact hS i hi
 | @frozen a a' k k' ha hk ih=>
  intro u w es0 es hw hT hS τ hτ
  simp only[Sem.runT]at hT hS hτ⊢
  rw[hw.frozen ha]at hT hS
  exact ih _ u w es0 es hw hT hS τ hτ
 | @getObj r k k' hd hk ih=>
  intro u w es0 es hw hT hS τ hτ
  have e1:(tp u τ).heap=u.heap:=rfl
  simp only[Sem.runT,e1]at hT hS hτ⊢
  rcases ho:u.heap[r]? with _|o
  ·rfl
  ·rw[ho]at hτ
   rcases hw.vI hd ho with⟨c,e,f,rfl⟩|⟨x,x',t,rfl,ho',hx⟩|⟨x,x',t,rfl,ho',hx⟩|⟨o',hm,hm',ho',hx⟩
   ·rfl
   ·simp only[ho']at hT hS hτ⊢
    exact ih _ _ (.view hx t) u w _ _ hw hT hS τ hτ
   ·simp only[ho']at hT hS hτ⊢
    exact ih _ _ (.number hx t) u w _ _ hw hT hS τ hτ
   ·have hx2:=hx
    cases hx<;>first|(cases hm;done)|(simp only[ho']at hT hS hτ⊢;exact ih _ _ hx2 u w _ _ hw hT hS τ hτ)
 | @setObj r o o' k k' hd ho hm hk ih=>
  intro u w es0 es hw hT hS τ hτ
  have e1:(tp u τ).heap=u.heap:=rfl
  simp only[Sem.runT,e1]at hT hS hτ⊢
  rcases hu:u.heap[r]? with _|o1
  ·rfl
  ·rw[hu]at hτ
   have hlt:=(Array.getElem?_eq_some_iff.1 hu).1
   obtain⟨o1',h1,h2⟩:=hw.obj r o1 hd hu
   have hS2:(∀i,w.heap.size+i<(qN (k'.runT P {w with heap:=w.heap.setIfInBounds (σ r) o'} (es.push ⟨.obj (σ r),true,o'.isChan⟩)).1).heap.size->D (u.heap.size+i)/\σ (u.heap.size+i)=w.heap.size+i)->
     ∀i,({w with heap:=w.heap.setIfInBounds (σ r) o'}:World).heap.size+i<(qN (k'.runT P {w with heap:=w.heap.setIfInBounds (σ r) o'} (es.push ⟨.obj (σ r),true,o'.isChan⟩)).1).heap.size->D (({u with heap:=u.heap.setIfInBounds r o}:World).heap.size+i)/\σ (({u with heap:=u.heap.setIfInBounds r o}:World).heap.size+i)=({w with heap:=w.heap.setIfInBounds (σ r) o'}:World).heap.size+i:=λhS i hi=>by
    have e1:({u with heap:=u.heap.setIfInBounds r o}:World).heap.size=u.heap.size:=by simp
    have e2:({w with heap:=w.heap.setIfInBounds (σ r) o'}:World).heap.size=w.heap.size:=by simp
    rw[e2]at hi
    rw[e1,e2]
    exact hS i hi
   cases h2<;>first|rfl|(simp only[h1]at hT hS hτ⊢;exact ih {u with heap:=u.heap.setIfInBounds r o} {w with heap:=w.heap.setIfInBounds (σ r) o'} _ _ (hw.setObj hinj hd ho hm hlt) hT (hS2 hS) τ hτ)
 | @choose q k k' hk ih=>
  intro u w es0 es hw hT hS τ hτ
  simp only[Sem.runT]at hT hS hτ⊢
  by_cases hq:q.forced=true
  ·simp only[hq,if_true]at hT hS hτ⊢
   exact ih 0 u w es0 es hw hT hS τ hτ
  ·simp only[if_neg hq]at hT hS hτ⊢
   have hg:=(gY P (k' (q.cut (w.tape w.drawn q))) {w with drawn:=w.drawn+1} es).drawn
   have hg2:=(gY P' (k (q.cut (u.tape u.drawn q))) {u with drawn:=u.drawn+1} es0).drawn
   dsimp only at hg2
   have h0:u.tape u.drawn=w.tape w.drawn:=hT 0 (by simp only[Nat.add_zero];exact hg)
   have e:τ u.drawn=u.tape u.drawn:=hτ u.drawn (Nat.le_refl _) (by omega)
   have e2:(tp u τ).tape (tp u τ).drawn=u.tape u.drawn:=e
   rw[e2]
   rw[h0]at hτ⊢
   exact ih _ {u with drawn:=u.drawn+1} {w with drawn:=w.drawn+1} es0 es ⟨hw.obj,hw.YR,hw.low,hw.orig,hw.os⟩ (λi hi=>by
    have:=hT (i+1) (by dsimp only at hi;rw[show w.drawn+(i+1)=w.drawn+1+i by omega];exact hi)
    dsimp only
    rw[show u.drawn+1+i=u.drawn+(i+1) by omega,show w.drawn+1+i=w.drawn+(i+1) by omega]
    exact this) hS τ (hτ.sub (Nat.le_succ _) (Nat.le_refl _))
 |program hk ih=>intro u w es0 es hw hT hS τ hτ;exact ih u w es0 es hw hT hS τ hτ
 |uq hk ih=>intro u w es0 es hw hT hS τ hτ;exact ih u w es0 es hw hT hS τ hτ
 | @mark m m' k k' hm hk ih=>
  intro u w es0 es hw hT hS τ hτ
  exact ih u w _ _ hw hT hS τ hτ
 |panic h=>intro u w es0 es hw _ _ τ _;rfl
 |dead h=>intro u w es0 es hw _ _ τ hτ;exact h.tape P' u es0 τ hτ
end
end Go.Proofs.YtlncengggmgdgaaGreat.par
