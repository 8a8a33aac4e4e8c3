/- The relation, operation by operation: slices, literals, append. No conditions. -/
import Derived.Test.YtlncengggmgdgaaGreatG02
import Derived.Laws.Sem
set_option linter.unusedVariables false
set_option linter.unusedSimpArgs false
namespace Go.Proofs.YtlncengggmgdgaaGreat.par
open Go
inductive uH{α β:Type}(R:α->β->Prop):Option α->Option β->Prop
 |none:uH R none none
 |some {a:α} {b:β} (h:R a b):uH R (some a) (some b)
section
variable {σ : Nat → Nat} {D : Nat → Prop} {T : Tables} {F' F : Array Func}
theorem IC(off:Nat):∀(l l':List (Value×Nat))(cs cs':Array Value),l.length=l'.length->(∀(i:Nat)(x y:Value×Nat),l[i]? =some x->l'[i]? =some y->VR σ D x.1 y.1/\x.2=y.2)->dI σ D cs cs'->
  dI σ D (l.foldl (λcs(p:Value×Nat)=>cs.setIfInBounds (off+p.2) p.1) cs) (l'.foldl (λcs(p:Value×Nat)=>cs.setIfInBounds (off+p.2) p.1) cs')
 |[],[],cs,cs',_,_,h=>h
 |x::l,y::l',cs,cs',hl,hv,h=>by
  have h0:=hv 0 x y rfl rfl
  simp only[List.foldl_cons]
  refine IC off l l' _ _ (by simpa using hl) (λi a b ha hb=>hv (i+1) a b (by simpa using ha) (by simpa using hb)) ?_
  rw[h0.2]
  exact h.set h0.1
 |[],y::l',_,_,hl,_,_=>by simp at hl
 |x::l,[],_,_,hl,_,_=>by simp at hl
theorem vO(place:Nat->Option (Nat×Nat)):∀(l l':List (Nat×Value))(cs cs':Array Value),l.length=l'.length->(∀(i:Nat)(x y:Nat×Value),l[i]? =some x->l'[i]? =some y->x.1=y.1/\VR σ D x.2 y.2)->dI σ D cs cs'->
  uH (dI σ D) (Instr.fill place cs l) (Instr.fill place cs' l')
 |[],[],cs,cs',_,_,h=>.some h
 |x::l,y::l',cs,cs',hl,hv,h=>by
  obtain⟨i,v⟩:=x
  obtain⟨i',v'⟩:=y
  have h0:=hv 0 (i,v) (i',v') rfl rfl
  obtain⟨rfl,hvv⟩:i=i'/\VR σ D v v':=h0
  unfold Instr.fill
  cases place i with
  |none=>exact .none
  |some p=>
   obtain⟨off,size⟩:=p
   dsimp only
   have hc:=iV hvv
   rw[hc.1,h.1]
   split
   ·exact .none
   ·refine vO place l l' _ _ (by simpa using hl) (λi a b ha hb=>hv (i+1) a b (by simpa using ha) (by simpa using hb)) ?_
    rw[<-Array.foldl_toList,<-Array.foldl_toList]
    refine IC off _ _ _ _ (by simp[hc.1]) (λi x y hx hy=> ?_) h
    simp only[Array.getElem?_toList,Array.getElem?_zipIdx,Option.map_eq_some_iff]at hx hy
    obtain⟨a,ha,rfl⟩:=hx
    obtain⟨b,hb,rfl⟩:=hy
    exact⟨hc.2 i a b ha hb,rfl⟩
 |[],y::l',_,_,hl,_,_=>by simp at hl
 |x::l,[],_,_,hl,_,_=>by simp at hl
def PsR(σ:Nat->Nat)(D:Nat->Prop)(p p':Array (Nat×Value)):Prop:=p.size=p'.size/\∀(i:Nat)x y,p[i]? =some x->p'[i]? =some y->x.1=y.1/\VR σ D x.2 y.2
theorem QS(fs:Array Field):ay σ D (⟨T,F'⟩:Program) (⟨T,F⟩:Program) Eq (fs.mapM λf=>do pure (f.offset,<-sizeOf f.type)) (fs.mapM λf=>do pure (f.offset,<-sizeOf f.type)):=by
 rw[Array.mapM_eq_mapM_toList]
 refine ay.bind (R:=Eq) ?_ (λa b e=>ak (by rw[e]))
 have key:∀l:List Field,ay σ D (⟨T,F'⟩:Program) (⟨T,F⟩:Program) Eq (l.mapM λf=>do pure (f.offset,<-sizeOf f.type)) (l.mapM λf=>do pure (f.offset,<-sizeOf f.type)):=by
  intro l
  induction l with
  |nil=>exact ak rfl
  |cons f l ih=>
   simp only[List.mapM_cons]
   refine ay.bind (R:=Eq) (bI _ (λn=>ak rfl)) (λa b e=> ?_)
   subst e
   exact ih.bind (λa b e=>ak (by rw[e]))
 exact key _
theorem gZ{α β γ:Type}{R:α->β->Prop}(e:RuntimeError)(he:okE e=true){f:γ->Sem α}{f':γ->Sem β}:ay σ D (⟨T,F'⟩:Program) (⟨T,F⟩:Program) R ((runtimePanic e:Sem γ)>>=f) ((runtimePanic e:Sem γ)>>=f'):=
 ay.bind (R:=λ_ _=>False) (dJ e he) (λ_ _ h=>h.elim)
theorem UY(hz:ZP T)(t:TypeId){p p':Array (Nat×Value)}(h:PsR σ D p p'):ay σ D (⟨T,F'⟩:Program) (⟨T,F⟩:Program) (VR σ D) (Instr.build t p) (Instr.build t p'):=by
 unfold Instr.build
 refine(o9 hz t).bind (λz z'⟨e,hp⟩=> ?_)
 subst e
 have hzc:dI σ D z.cells z.cells:=iV (hp σ D)
 have hl:p.toList.length=p'.toList.length:=by simpa using h.1
 have hv:∀(i:Nat)(x y:Nat×Value),p.toList[i]? =some x->p'.toList[i]? =some y->x.1=y.1/\VR σ D x.2 y.2:=λi x y hx hy=>h.2 i x y (by simpa using hx) (by simpa using hy)
 refine dA t (λd=> ?_)
 cases d with
 |struct fields=>
  refine(QS fields).bind (λa b e=> ?_)
  subst e
  have:=vO (σ:=σ) (D:=D) (a[·]?) p.toList p'.toList _ _ hl hv hzc
  revert this
  generalize Instr.fill (a[·]?) z.cells p.toList=x
  generalize Instr.fill (a[·]?) z.cells p'.toList=y
  intro hxy
  cases hxy with
  |none=>exact aj
  |some h=>exact ak (.agg h.1 h.2)
 |array len elem=>
  refine bI _ (λn=> ?_)
  have:=vO (σ:=σ) (D:=D) (λi=>some (i*n,n)) p.toList p'.toList _ _ hl hv hzc
  revert this
  generalize Instr.fill (λi=>some (i*n,n)) z.cells p.toList=x
  generalize Instr.fill (λi=>some (i*n,n)) z.cells p'.toList=y
  intro hxy
  cases hxy with
  |none=>exact aj
  |some h=>exact ak (.agg h.1 h.2)
 |_=>exact aj
theorem xX{z:Array Value}(hz:dI σ D z z)(hd:∀i:Nat,i<z.size->True)(n:Nat):dI σ D ((Array.range n).map (z[· %z.size]!)) ((Array.range n).map (z[· %z.size]!)):=by
 refine⟨rfl,λi x y hx hy=> ?_⟩
 rw[hx]at hy
 cases hy
 simp only[Array.getElem?_map,Array.getElem?_range]at hx
 split at hx
 ·simp only[Option.map_some,Option.some.injEq]at hx
  subst hx
  rw[getElem!_def]
  cases hg:z[i%z.size]? with
  |some v=>exact hz.2 _ v v hg hg
  |none=>exact .bool false
 ·cases hx
theorem DZ(hz:ZP T)(t:TypeId)(len:Nat){p p':Array (Nat×Value)}(h:PsR σ D p p'):ay σ D (⟨T,F'⟩:Program) (⟨T,F⟩:Program) (VR σ D) (Instr.buildSlice t len p) (Instr.buildSlice t len p'):=by
 unfold Instr.buildSlice
 have hl:p.toList.length=p'.toList.length:=by simpa using h.1
 have hv:∀(i:Nat)(x y:Nat×Value),p.toList[i]? =some x->p'.toList[i]? =some y->x.1=y.1/\VR σ D x.2 y.2:=λi x y hx hy=>h.2 i x y (by simpa using hx) (by simpa using hy)
 refine dA t (λd=> ?_)
 cases d with
 |slice elem=>
  refine bI _ (λn=> ?_)
  dsimp only
  have tail:∀z:Array Value,dI σ D z z->ay σ D (⟨T,F'⟩:Program) (⟨T,F⟩:Program) (VR σ D) (match Instr.fill (λi=>some (i*n,n)) ((Array.range (len*n)).map (z[· %z.size]!)) p.toList with
    |some cells=>(newRow elem cells>>=λa=>Pure.pure (Value.slice (some a) len len))
    |x=>stuck "buildSlice: a part of the wrong size") (match Instr.fill (λi=>some (i*n,n)) ((Array.range (len*n)).map (z[· %z.size]!)) p'.toList with
    |some cells=>(newRow elem cells>>=λa=>Pure.pure (Value.slice (some a) len len))
    |x=>stuck "buildSlice: a part of the wrong size"):=by
   intro z hzz
   have:=vO (σ:=σ) (D:=D) (λi=>some (i*n,n)) p.toList p'.toList _ _ hl hv (xX hzz (λ_ _=>trivial) (len*n))
   revert this
   generalize Instr.fill (λi=>some (i*n,n)) ((Array.range (len*n)).map (z[· %z.size]!)) p.toList=x
   generalize Instr.fill (λi=>some (i*n,n)) ((Array.range (len*n)).map (z[· %z.size]!)) p'.toList=y
   intro hxy
   cases hxy with
   |none=>exact aj
   |some h=>exact(sG elem h).bind (λa b hab=>ak (.slice hab _ _))
  split
  ·exact eF
  ·split
   ·exact ay.bind (R:=λa b=>a= #[]/\b= #[]) (ak ⟨rfl,rfl⟩) (λa b⟨e1,e2⟩=>by subst e1 e2;exact tail #[] ⟨rfl,λi x y hx=>by simp at hx⟩)
   ·refine(o9 hz elem).bind (λz z'⟨e,hp⟩=> ?_)
    subst e
    exact ay.bind (R:=λa b=>a=z.cells/\b=z.cells) (ak ⟨rfl,rfl⟩) (λa b⟨e1,e2⟩=>by subst e1 e2;exact tail _ (iV (hp σ D)))
 |_=>exact aj
theorem A8(n:Nat):ay σ D (⟨T,F'⟩:Program) (⟨T,F⟩:Program) (λ_ _=>True) (askRoom n) (askRoom n):=by
 unfold askRoom
 split
 ·exact .mark .noRoom (.pure trivial)
 ·exact ak trivial
theorem FU(hz:ZP T)(t:TypeId){l l' c c':Value}(hl:VR σ D l l')(hc:VR σ D c c'):ay σ D (⟨T,F'⟩:Program) (⟨T,F⟩:Program) (VR σ D) (Instr.makeSlice t l c) (Instr.makeSlice t l' c'):=by
 unfold Instr.makeSlice
 refine dA t (λd=> ?_)
 cases d with
 |slice elem=>
  refine(mM hl).bind (λa b e=> ?_)
  subst e
  refine(mM hc).bind (λa2 b e=> ?_)
  subst e
  refine jv _ (λi hi=> ?_)
  dsimp only
  have tail:∀(n:Nat)(z:Array Value),dI σ D z z->ay σ D (⟨T,F'⟩:Program) (⟨T,F⟩:Program) (VR σ D) (newRow elem ((Array.range n).map (z[· %z.size]!))>>=λx=>Pure.pure (Value.slice (some x) (IntKind.i64.wrap a).toNat (IntKind.i64.wrap a2).toNat)) (newRow elem ((Array.range n).map (z[· %z.size]!))>>=λx=>Pure.pure (Value.slice (some x) (IntKind.i64.wrap a).toNat (IntKind.i64.wrap a2).toNat)):=
   λn z hzz=>(sG elem (xX hzz (λ_ _=>trivial) n)).bind (λa b hab=>ak (.slice hab _ _))
  split
  ·split
   ·exact gZ (.error _) rfl
   ·split
    ·exact gZ (.error _) rfl
    ·refine ay.bind (R:=Eq) (sJ _) (λa b e=> ?_)
     subst e
     exact gZ (.error _) rfl
  ·refine(A8 _).bind (λ_ _ _=> ?_)
   refine bI _ (λn=> ?_)
   split
   ·exact ay.bind (R:=λa b=>a= #[]/\b= #[]) (ak ⟨rfl,rfl⟩) (λa b⟨e1,e2⟩=>by subst e1 e2;exact tail _ #[] ⟨rfl,λi x y hx=>by simp at hx⟩)
   ·refine(o9 hz elem).bind (λz z'⟨e,hp⟩=> ?_)
    subst e
    exact ay.bind (R:=λa b=>a=z.cells/\b=z.cells) (ak ⟨rfl,rfl⟩) (λa b⟨e1,e2⟩=>by subst e1 e2;exact tail _ _ (iV (hp σ D)))
 |_=>exact aj
theorem D5{v v':Value}(h:VR σ D v v')(y:Nat)(c:BoundsCode):ay σ D (⟨T,F'⟩:Program) (⟨T,F⟩:Program) Eq (Instr.sliceBound v y c) (Instr.sliceBound v' y c):=by
 unfold Instr.sliceBound
 refine(pq h).bind (λa b e=> ?_)
 subst e
 obtain⟨k,n⟩:=a
 dsimp only
 split
 ·exact ak rfl
 ·exact lY _ _ _ _
theorem aeV{α β:Type}{R:α->β->Prop}{v v':Value}(h:VR σ D v v'){y:Nat}{c:BoundsCode}{f:Nat->Sem α}{f':Nat->Sem β}(hf:∀n,ay σ D (⟨T,F'⟩:Program) (⟨T,F⟩:Program) R (f n) (f' n)):ay σ D (⟨T,F'⟩:Program) (⟨T,F⟩:Program) R (Instr.sliceBound v y c>>=f) (Instr.sliceBound v' y c>>=f'):=(D5 h y c).bind (λa b e=>e▸hf a)
theorem IE{α β γ:Type}{R:α->β->Prop}{a:γ}{f:γ->Sem α}{f':γ->Sem β}(hf:ay σ D (⟨T,F'⟩:Program) (⟨T,F⟩:Program) R (f a) (f' a)):ay σ D (⟨T,F'⟩:Program) (⟨T,F⟩:Program) R ((Pure.pure a:Sem γ)>>=f) ((Pure.pure a:Sem γ)>>=f'):=hf
theorem iJ(b:Bool)(len cap:Nat){l l' h h' m m':Option Value}(hl:uH (VR σ D) l l')(hh:uH (VR σ D) h h')(hm:uH (VR σ D) m m'):ay σ D (⟨T,F'⟩:Program) (⟨T,F⟩:Program) Eq (Instr.sliceBounds b len cap l h m) (Instr.sliceBounds b len cap l' h' m'):=by
 unfold Instr.sliceBounds
 cases hm<;>cases hh<;>cases hl<;>dsimp only
 all_goals (repeat(first|exact iC|exact ak rfl|refine aeV (by assumption) (λn=> ?_)|refine IE ?_))
theorem UZ(t:TypeId){v v':Value}{l l' h h' m m':Option Value}(hv:VR σ D v v')(hl:uH (VR σ D) l l')(hh:uH (VR σ D) h h')(hm:uH (VR σ D) m m'):ay σ D (⟨T,F'⟩:Program) (⟨T,F⟩:Program) (VR σ D) (Instr.slice t v l h m) (Instr.slice t v' l' h' m'):=by
 have hsome:m.isSome=m'.isSome:=by cases hm<;>rfl
 unfold Instr.slice
 refine dA t (λd=> ?_)
 cases d with
 |string=>
  cases hv with
  |string s=>
   dsimp only
   rw[hsome]
   split
   ·exact iC
   ·exact(iJ false _ _ hl hh .none).bind (λa b e=>by subst e;exact ak (.string _))
  |_=>exact aj
 |slice elem=>
  cases hv with
  |fK len cap=>
   refine(iJ true _ _ hl hh hm).bind (λa b e=> ?_)
   subst e
   refine bI _ (λn=> ?_)
   refine ak ?_
   split<;>exact .fK _ _
  | @slice a b hab len cap=>
   refine(iJ true _ _ hl hh hm).bind (λa b e=> ?_)
   subst e
   refine bI _ (λn=> ?_)
   refine ak ?_
   split
   ·exact .slice hab _ _
   ·exact .slice (hab.add _) _ _
  |_=>exact aj
 |pointer arr=>
  refine(sH hv).bind (λa b hab=> ?_)
  refine dA arr (λd=> ?_)
  cases d with
  |array n elem=>
   refine(iJ false _ _ hl hh hm).bind (λx y e=> ?_)
   subst e
   refine bI _ (λn=> ?_)
   refine ak ?_
   split
   ·exact .slice hab _ _
   ·exact .slice (hab.add _) _ _
  |_=>exact aj
 |_=>exact aj
theorem LX(t:TypeId){v v':Value}{l l' h h' m m':Option Value}(hv:VR σ D v v')(hl:uH (VR σ D) l l')(hh:uH (VR σ D) h h')(hm:uH (VR σ D) m m'):ay σ D (⟨T,F'⟩:Program) (⟨T,F⟩:Program) (VR σ D) (Instr.sliceAt t v l h m) (Instr.sliceAt t v' l' h' m'):=by
 unfold Instr.sliceAt
 refine dA t (λd=> ?_)
 cases d with
 |array n elem=>
  refine(vN hv).bind (λa b hab=> ?_)
  refine(iJ false _ _ hl hh hm).bind (λx y e=> ?_)
  subst e
  refine bI _ (λn=> ?_)
  refine ak ?_
  split
  ·exact .slice hab _ _
  ·exact .slice (hab.add _) _ _
 |_=>exact UZ t hv hl hh hm
end
end Go.Proofs.YtlncengggmgdgaaGreat.par
namespace Go.Proofs.YtlncengggmgdgaaGreat.par
open Go
section
variable {σ : Nat → Nat} {D : Nat → Prop} {T : Tables} {F' F : Array Func}
theorem U0{v v':Value}(h:VR σ D v v'):ay σ D (⟨T,F'⟩:Program) (⟨T,F⟩:Program) Eq (Builtin.lenOf v) (Builtin.lenOf v'):=by
 cases h<;>first|exact ak rfl|exact aj
theorem QT(s:ByteArray)(n:Nat):dI σ D ((s.extract 0 n).data.map λb=>.int .u8 b.toNat) ((s.extract 0 n).data.map λb=>.int .u8 b.toNat):=mJ (λx hx=>by
 obtain⟨b,_,rfl⟩:=Array.mem_map.1 hx
 rfl)
theorem D6(size n:Nat){v v':Value}(h:VR σ D v v'):ay σ D (⟨T,F'⟩:Program) (⟨T,F⟩:Program) (dI σ D) (Builtin.firstCells size n v) (Builtin.firstCells size n v'):=by
 cases h with
 |slice h l c=>exact lJ h _ 0 #[] #[] ⟨rfl,λi x y hx=>by simp at hx⟩
 |fK l c=>exact ak ⟨rfl,λi x y hx=>by simp at hx⟩
 |string s=>exact ak (QT s n)
 |_=>exact aj
theorem dD{z:Array Value}(hz:dI σ D z z)(n:Nat):dI σ D (Builtin.zeroCells z n) (Builtin.zeroCells z n):=xX hz (λ_ _=>trivial) _
theorem dI.append{a a' b b':Array Value}(h:dI σ D a a')(k:dI σ D b b'):dI σ D (a++b) (a'++b'):=by
 refine⟨by simp[h.1,k.1],λi x y hx hy=> ?_⟩
 rw[Array.getElem?_append]at hx hy
 rw[h.1]at hx
 split at hx<;>rename_i hi
 ·rw[if_pos hi]at hy;exact h.2 i x y hx hy
 ·rw[if_neg hi]at hy;exact k.2 _ x y hx hy
inductive qR{α:Type}:Sem α->Prop
 |pure (a:α):qR (.pure a)
 |shape {r:Nat} {k:Option (TypeId×Nat)->Sem α} (h:∀s,qR (k s)):qR (.shape r k)
 |frozen {a:Addr} {k:Bool->Sem α} (h:∀b,qR (k b)):qR (.frozen a k)
theorem qR.bind{α γ:Type}{s:Sem α}(h:qR s){f:α->Sem γ}(hf:∀a,qR (f a)):qR (s>>=f):=by
 show qR (s.bind f)
 induction h with
 |pure a=>exact hf a
 |shape _ ih=>exact .shape ih
 |frozen _ ih=>exact .frozen ih
theorem qR.dead{α γ:Type}{s:Sem α}(h:qR s){f:α->Sem γ}(hf:∀a,Dead (f a)):Dead (s>>=f):=by
 show Dead (s.bind f)
 induction h with
 |pure a=>exact hf a
 |shape _ ih=>exact .shape ih
 |frozen _ ih=>exact .frozen ih
theorem Ba(a:Addr)(n:Nat):qR (Builtin.holdsCells a n):=.shape (λs=>by cases s<;>exact .pure _)
theorem LY(size sLen n:Nat)(b:Option Addr)(x:Value):qR (Builtin.mayShare size sLen n b x):=by
 unfold Builtin.mayShare
 have last:∀t:Bool,qR (if !t then Pure.pure true else match x with
  | .slice (some b0) _ _=>do Pure.pure (!(<-Builtin.holdsCells b0 (n*size))||b.any (·.block==b0.block))
  |_=>Pure.pure false:Sem Bool):=by
  intro t
  split
  ·exact .pure _
  ·split
   ·exact(Ba _ _).bind (λ_=>.pure _)
   ·exact .pure _
 cases b with
 |none=>exact last true
 |some a=>
  refine qR.bind (Ba _ _) (λp=> ?_)
  refine qR.bind (.frozen (λb=>.pure b)) (λq=> ?_)
  exact last _
theorem vP(size sLen n:Nat)(b:Option Addr)(x:Value){α:Type}:Dead (do
  if !(<-Builtin.mayShare size sLen n b x)then mark .noRoom
  unsupported (.resourceLimit "append: a slice or a string whose bytes no memory bears"):Sem α):=by
 refine(LY size sLen n b x).dead (λt=> ?_)
 cases t
 ·exact .mark (.halt trivial)
 ·exact .halt trivial
theorem vS{α β γ:Type}{R:α->β->Prop}{s:Sem γ}(h:Dead s){f:γ->Sem α}{s':Sem β}:ay σ D (⟨T,F'⟩:Program) (⟨T,F⟩:Program) R (s>>=f) s':=.dead (h.bind f)
theorem sO{α β:Type}{R:α->β->Prop}{v v':Value}(h:VR σ D v v'){f:Nat->Sem α}{f':Nat->Sem β}(hf:∀n,ay σ D (⟨T,F'⟩:Program) (⟨T,F⟩:Program) R (f n) (f' n)):ay σ D (⟨T,F'⟩:Program) (⟨T,F⟩:Program) R (Builtin.lenOf v>>=f) (Builtin.lenOf v'>>=f'):=(U0 h).bind (λa b e=>e▸hf a)
theorem sQ{α β:Type}{R:α->β->Prop}{v v':Value}(h:VR σ D v v'){f:Int->Sem α}{f':Int->Sem β}(hf:∀n,ay σ D (⟨T,F'⟩:Program) (⟨T,F⟩:Program) R (f n) (f' n)):ay σ D (⟨T,F'⟩:Program) (⟨T,F⟩:Program) R (asInt v>>=f) (asInt v'>>=f'):=(mM h).bind (λa b e=>e▸hf a)
theorem iK{α β:Type}{R:α->β->Prop}{q:Question}{f:Nat->Sem α}{f':Nat->Sem β}(hf:∀n,ay σ D (⟨T,F'⟩:Program) (⟨T,F⟩:Program) R (f n) (f' n)):ay σ D (⟨T,F'⟩:Program) (⟨T,F⟩:Program) R (choose q>>=f) (choose q>>=f'):=(sJ q).bind (λa b e=>e▸hf a)
theorem Ae{α β:Type}{R:α->β->Prop}{n:Nat}{f:Unit->Sem α}{f':Unit->Sem β}(hf:ay σ D (⟨T,F'⟩:Program) (⟨T,F⟩:Program) R (f ()) (f' ())):ay σ D (⟨T,F'⟩:Program) (⟨T,F⟩:Program) R (askRoom n>>=f) (askRoom n>>=f'):=(A8 n).bind (λ_ _ _=>hf)
theorem lZ{α β:Type}{R:α->β->Prop}{s n:Nat}{v v':Value}(h:VR σ D v v'){f:Array Value->Sem α}{f':Array Value->Sem β}(hf:∀c c',dI σ D c c'->ay σ D (⟨T,F'⟩:Program) (⟨T,F⟩:Program) R (f c) (f' c')):ay σ D (⟨T,F'⟩:Program) (⟨T,F⟩:Program) R (Builtin.firstCells s n v>>=f) (Builtin.firstCells s n v'>>=f'):=(D6 s n h).bind hf
theorem vT(hz:ZP T){α β:Type}{R:α->β->Prop}{t:TypeId}{f:Value->Sem α}{f':Value->Sem β}(hf:∀z,dI σ D z.cells z.cells->ay σ D (⟨T,F'⟩:Program) (⟨T,F⟩:Program) R (f z) (f' z)):ay σ D (⟨T,F'⟩:Program) (⟨T,F⟩:Program) R (zeroValue t>>=f) (zeroValue t>>=f'):=(o9 hz t).bind (λa b⟨e,hp⟩=>by subst e;exact hf a (iV (hp σ D)))
theorem ou{α β:Type}{R:α->β->Prop}{a a':Addr}(h:AR σ D a a'){c c':Array Value}(hc:dI σ D c c'){f:Unit->Sem α}{f':Unit->Sem β}(hf:ay σ D (⟨T,F'⟩:Program) (⟨T,F⟩:Program) R (f ()) (f' ())):ay σ D (⟨T,F'⟩:Program) (⟨T,F⟩:Program) R (storeCells a c.toList>>=f) (storeCells a' c'.toList>>=f'):=
 (nY h c.toList c'.toList 0 (by simpa using hc.1) (λj x y hx hy=>hc.2 j x y (by simpa using hx) (by simpa using hy))).bind (λ_ _ _=>hf)
theorem mO{α β:Type}{R:α->β->Prop}{e:TypeId}{c c':Array Value}(hc:dI σ D c c'){f:Addr->Sem α}{f':Addr->Sem β}(hf:∀a a',AR σ D a a'->ay σ D (⟨T,F'⟩:Program) (⟨T,F⟩:Program) R (f a) (f' a')):ay σ D (⟨T,F'⟩:Program) (⟨T,F⟩:Program) R (newRow e c>>=f) (newRow e c'>>=f'):=(sG e hc).bind hf
theorem dI.nil:dI σ D #[] #[]:=⟨rfl,λi x y hx=>by simp at hx⟩
theorem FV(hz:ZP T){α β:Type}{R:α->β->Prop}{t:TypeId}{n:Nat}{f:Array Value->Sem α}{f':Array Value->Sem β}(hf:∀c,dI σ D c c->ay σ D (⟨T,F'⟩:Program) (⟨T,F⟩:Program) R (f c) (f' c)):ay σ D (⟨T,F'⟩:Program) (⟨T,F⟩:Program) R ((zeroValue t>>=λz=>Pure.pure (Builtin.zeroCells z.cells n))>>=f) ((zeroValue t>>=λz=>Pure.pure (Builtin.zeroCells z.cells n))>>=f'):=
 ay.bind (R:=λa b=>a=b/\dI σ D a a) ((o9 hz t).bind (λa b⟨e,hp⟩=>by subst e;exact ak ⟨rfl,dD (iV (hp σ D)) n⟩)) (λa b⟨e,h⟩=>by subst e;exact hf a h)
theorem aS{α β:Type}{R:α->β->Prop}{c:Prop} [Decidable c]{x y:Sem α}{x' y':Sem β}(h1:c->ay σ D (⟨T,F'⟩:Program) (⟨T,F⟩:Program) R x x')(h2:¬c->ay σ D (⟨T,F'⟩:Program) (⟨T,F⟩:Program) R y y'):ay σ D (⟨T,F'⟩:Program) (⟨T,F⟩:Program) R (if c then x else y) (if c then x' else y'):=by
 by_cases h:c
 ·rw[if_pos h,if_pos h];exact h1 h
 ·rw[if_neg h,if_neg h];exact h2 h
theorem U1{α β γ:Type}{R:α->β->Prop}{a:γ}{f:γ->Sem α}{f':γ->Sem β}(hf:∀z,ay σ D (⟨T,F'⟩:Program) (⟨T,F⟩:Program) R (f z) (f' z)):ay σ D (⟨T,F'⟩:Program) (⟨T,F⟩:Program) R ((Pure.pure a:Sem γ)>>=f) ((Pure.pure a:Sem γ)>>=f'):=hf a
set_option maxHeartbeats 4000000 in
theorem Ej(hz:ZP T)(at':Array TypeId)(t:TypeId){args args':Array Value}(h:dI σ D args args'):ay σ D (⟨T,F'⟩:Program) (⟨T,F⟩:Program) (VR σ D) (Builtin.append_ at' t args) (Builtin.append_ at' t args'):=by
 unfold Builtin.append_
 rcases h0:at'[0]? with _|t0
 ·exact aj
 rcases h1:args[0]? with _|s
 ·exact aj
 rcases h2:args[1]? with _|x
 ·exact aj
 obtain⟨s',hs',hss⟩:=h.get h1
 obtain⟨x',hx',hxx⟩:=h.get h2
 rw[hs',hx']
 dsimp only
 refine dA t0 (λd=> ?_)
 cases d with
 |slice elem=>
  dsimp only
  cases hss with
  |fK sLen sCap=>
   have hss:VR σ D (.slice none sLen sCap) (.slice none sLen sCap):=.fK _ _
   dsimp only
   refine bI _ (λsize=> ?_)
   clear h0 h1 hs' h2 hx' h
   cases at'[1]? with
   |none=>
    dsimp only
    all_goals (repeat' (first
     |with_reducible exact iC|with_reducible exact eF|with_reducible exact aj|with_reducible exact aA
     |with_reducible exact gZ (.error _) rfl|with_reducible exact dJ (.error _) rfl
     |with_reducible exact vS (vP _ _ _ _ _)
     |with_reducible exact ak (.fK _ _)|with_reducible exact ak (.slice (by assumption) _ _)|with_reducible exact ak (.int _ _)
     |with_reducible refine jv _ (λ_ _=> ?_)|with_reducible refine bI _ (λ_=> ?_)|with_reducible refine dA _ (λ_=> ?_)
     |with_reducible refine Ae ?_|with_reducible refine sO (by assumption) (λ_=> ?_)|with_reducible refine sQ (by assumption) (λ_=> ?_)|with_reducible refine iK (λ_=> ?_)
     |with_reducible refine lZ (by assumption) (λ_ _ _=> ?_)|with_reducible refine FV hz (λ_ _=> ?_)|with_reducible refine vT hz (λ_ _=> ?_)
     |with_reducible refine ou (AR.add (by assumption) _) (by first|assumption|with_reducible exact dI.nil|with_reducible exact dD (by assumption) _) ?_
     |with_reducible refine mO (dI.append (dI.append (by assumption) (by first|assumption|with_reducible exact dI.nil|with_reducible exact dD (by assumption) _)) (dD (by assumption) _)) (λ_ _ _=> ?_)
     |with_reducible refine IE ?_
     |with_reducible refine aS (λ_=> ?_) (λ_=> ?_)
     |(dsimp only;done)
     |(simp only[Bool.not_false,Bool.not_true,Bool.false_eq_true,if_true,if_false,false_or,true_or];done)
     |(simp only[Bool.not_false,Bool.not_true,Bool.false_eq_true,if_true,if_false,false_or,true_or])
     |split))
   |some xt=>
    dsimp only
    refine dA _ (λd=> ?_)
    refine U1 (λz=> ?_)
    cases z
    all_goals (repeat' (first
     |with_reducible exact iC|with_reducible exact eF|with_reducible exact aj|with_reducible exact aA
     |with_reducible exact gZ (.error _) rfl|with_reducible exact dJ (.error _) rfl
     |with_reducible exact vS (vP _ _ _ _ _)
     |with_reducible exact ak (.fK _ _)|with_reducible exact ak (.slice (by assumption) _ _)|with_reducible exact ak (.int _ _)
     |with_reducible refine jv _ (λ_ _=> ?_)|with_reducible refine bI _ (λ_=> ?_)|with_reducible refine dA _ (λ_=> ?_)
     |with_reducible refine Ae ?_|with_reducible refine sO (by assumption) (λ_=> ?_)|with_reducible refine sQ (by assumption) (λ_=> ?_)|with_reducible refine iK (λ_=> ?_)
     |with_reducible refine lZ (by assumption) (λ_ _ _=> ?_)|with_reducible refine FV hz (λ_ _=> ?_)|with_reducible refine vT hz (λ_ _=> ?_)
     |with_reducible refine ou (AR.add (by assumption) _) (by first|assumption|with_reducible exact dI.nil|with_reducible exact dD (by assumption) _) ?_
     |with_reducible refine mO (dI.append (dI.append (by assumption) (by first|assumption|with_reducible exact dI.nil|with_reducible exact dD (by assumption) _)) (dD (by assumption) _)) (λ_ _ _=> ?_)
     |with_reducible refine IE ?_
     |with_reducible refine aS (λ_=> ?_) (λ_=> ?_)
     |(dsimp only;done)
     |(simp only[Bool.not_false,Bool.not_true,Bool.false_eq_true,if_true,if_false,false_or,true_or];done)
     |(simp only[Bool.not_false,Bool.not_true,Bool.false_eq_true,if_true,if_false,false_or,true_or])
     |split))
  | @slice a b hab sLen sCap=>
   have hss:VR σ D (.slice (some a) sLen sCap) (.slice (some b) sLen sCap):=.slice hab _ _
   dsimp only
   refine bI _ (λsize=> ?_)
   clear h0 h1 hs' h2 hx' h
   cases at'[1]? with
   |none=>
    dsimp only
    all_goals (repeat' (first
     |with_reducible exact iC|with_reducible exact eF|with_reducible exact aj|with_reducible exact aA
     |with_reducible exact gZ (.error _) rfl|with_reducible exact dJ (.error _) rfl
     |with_reducible exact vS (vP _ _ _ _ _)
     |with_reducible exact ak (.fK _ _)|with_reducible exact ak (.slice (by assumption) _ _)|with_reducible exact ak (.int _ _)
     |with_reducible refine jv _ (λ_ _=> ?_)|with_reducible refine bI _ (λ_=> ?_)|with_reducible refine dA _ (λ_=> ?_)
     |with_reducible refine Ae ?_|with_reducible refine sO (by assumption) (λ_=> ?_)|with_reducible refine sQ (by assumption) (λ_=> ?_)|with_reducible refine iK (λ_=> ?_)
     |with_reducible refine lZ (by assumption) (λ_ _ _=> ?_)|with_reducible refine FV hz (λ_ _=> ?_)|with_reducible refine vT hz (λ_ _=> ?_)
     |with_reducible refine ou (AR.add (by assumption) _) (by first|assumption|with_reducible exact dI.nil|with_reducible exact dD (by assumption) _) ?_
     |with_reducible refine mO (dI.append (dI.append (by assumption) (by first|assumption|with_reducible exact dI.nil|with_reducible exact dD (by assumption) _)) (dD (by assumption) _)) (λ_ _ _=> ?_)
     |with_reducible refine IE ?_
     |with_reducible refine aS (λ_=> ?_) (λ_=> ?_)
     |(dsimp only;done)
     |(simp only[Bool.not_false,Bool.not_true,Bool.false_eq_true,if_true,if_false,false_or,true_or];done)
     |(simp only[Bool.not_false,Bool.not_true,Bool.false_eq_true,if_true,if_false,false_or,true_or])
     |split))
   |some xt=>
    dsimp only
    refine dA _ (λd=> ?_)
    refine U1 (λz=> ?_)
    cases z
    all_goals (repeat' (first
     |with_reducible exact iC|with_reducible exact eF|with_reducible exact aj|with_reducible exact aA
     |with_reducible exact gZ (.error _) rfl|with_reducible exact dJ (.error _) rfl
     |with_reducible exact vS (vP _ _ _ _ _)
     |with_reducible exact ak (.fK _ _)|with_reducible exact ak (.slice (by assumption) _ _)|with_reducible exact ak (.int _ _)
     |with_reducible refine jv _ (λ_ _=> ?_)|with_reducible refine bI _ (λ_=> ?_)|with_reducible refine dA _ (λ_=> ?_)
     |with_reducible refine Ae ?_|with_reducible refine sO (by assumption) (λ_=> ?_)|with_reducible refine sQ (by assumption) (λ_=> ?_)|with_reducible refine iK (λ_=> ?_)
     |with_reducible refine lZ (by assumption) (λ_ _ _=> ?_)|with_reducible refine FV hz (λ_ _=> ?_)|with_reducible refine vT hz (λ_ _=> ?_)
     |with_reducible refine ou (AR.add (by assumption) _) (by first|assumption|with_reducible exact dI.nil|with_reducible exact dD (by assumption) _) ?_
     |with_reducible refine mO (dI.append (dI.append (by assumption) (by first|assumption|with_reducible exact dI.nil|with_reducible exact dD (by assumption) _)) (dD (by assumption) _)) (λ_ _ _=> ?_)
     |with_reducible refine IE ?_
     |with_reducible refine aS (λ_=> ?_) (λ_=> ?_)
     |(dsimp only;done)
     |(simp only[Bool.not_false,Bool.not_true,Bool.false_eq_true,if_true,if_false,false_or,true_or];done)
     |(simp only[Bool.not_false,Bool.not_true,Bool.false_eq_true,if_true,if_false,false_or,true_or])
     |split))
  |_=>exact aj
 |_=>exact aj
theorem OX(at':Array TypeId)(t:TypeId){args args':Array Value}(h:dI σ D args args'):ay σ D (⟨T,F'⟩:Program) (⟨T,F⟩:Program) (VR σ D) (Builtin.copy_ at' t args) (Builtin.copy_ at' t args'):=by
 unfold Builtin.copy_
 rcases h0:at'[0]? with _|t0
 ·exact aj
 rcases h1:args[0]? with _|s
 ·exact aj
 rcases h2:args[1]? with _|x
 ·exact aj
 obtain⟨s',hs',hss⟩:=h.get h1
 obtain⟨x',hx',hxx⟩:=h.get h2
 rw[hs',hx']
 dsimp only
 refine dA t0 (λd=> ?_)
 cases d with
 |slice elem=>
  dsimp only
  cases hss with
  |fK sLen sCap=>
   refine sO hxx (λn=> ?_)
   refine bI _ (λm=> ?_)
   refine lZ hxx (λc c' hc=> ?_)
   exact ak (.int _ _)
  | @slice a b hab sLen sCap=>
   refine sO hxx (λn=> ?_)
   refine bI _ (λm=> ?_)
   refine lZ hxx (λc c' hc=> ?_)
   exact ou hab hc (ak (.int _ _))
  |_=>exact aj
 |_=>exact aj
theorem U2(at':Array TypeId)(t:TypeId){args args':Array Value}(h:dI σ D args args'):ay σ D (⟨T,F'⟩:Program) (⟨T,F⟩:Program) (VR σ D) (Builtin.len_ at' t args) (Builtin.len_ at' t args'):=by
 unfold Builtin.len_
 rcases h0:at'[0]? with _|t0
 ·exact aj
 rcases h1:args[0]? with _|s
 ·exact aj
 obtain⟨s',hs',hss⟩:=h.get h1
 rw[hs']
 dsimp only
 refine dA t0 (λd=> ?_)
 cases d with
 |slice e=>cases hss<;>first|exact ak (.int _ _)|exact aj
 |string=>cases hss<;>first|exact ak (.int _ _)|exact aj
 |array n e=>exact ak (.int _ _)
 |pointer arr=>
  refine dA arr (λd=> ?_)
  cases d<;>first|exact ak (.int _ _)|exact aj
 |map k e=>
  cases hss with
  |jy=>exact ak (.int _ _)
  |map hd=>
   refine .getObj hd (λo o' ho=> ?_)
   cases ho<;>exact aj
  |_=>exact aj
 |chan k e=>
  cases hss with
  |jg=>exact ak (.int _ _)
  |_=>exact aj
 |_=>exact aj
theorem yV(op:BinOp)(a b:ByteArray):ay σ D (⟨T,F'⟩:Program) (⟨T,F⟩:Program) (VR σ D) (Op.stringOp op a b) (Op.stringOp op a b):=by
 unfold Op.stringOp
 cases op<;>dsimp only<;>first|exact aj|exact ak (.bool _)|(split<;>first|exact aA|exact ak (.string _))
theorem YS{a a' b b':Value}(ha:VR σ D a a')(hb:VR σ D b b'):ay σ D (⟨T,F'⟩:Program) (⟨T,F⟩:Program) (VR σ D) (Builtin.min2 a b) (Builtin.min2 a' b'):=by
 cases ha with
 |int k n=>cases hb<;>first|exact ak (.int _ _)|exact aj|exact aA
 |float k n=>
  cases hb with
  |float k' m=>
   have e:(Builtin.min2 (.float k n) (.float k' m))=(match k.format.order n m with
    |none=>do Pure.pure (.float k (<-choose (.nanMinMax k false n m)))
    |some .lt=>Pure.pure (.float k n)
    |some .gt=>Pure.pure (.float k m)
    |some .eq=>Pure.pure (.float k (if(k.decode n).neg then n else m))):=rfl
   rw[e]
   cases k.format.order n m with
   |none=>exact iK (λ_=>ak (.float _ _))
   |some o=>cases o<;>exact ak (.float _ _)
  |_=>first|exact aj|exact aA
 |string s=>
  cases hb with
  |string s'=>
   refine(yV _ _ _).bind (λx y hxy=> ?_)
   refine(Ei hxy).bind (λp q e=> ?_)
   subst e
   exact ak (.string _)
  |_=>first|exact aj|exact aA
 |_=>cases hb<;>first|exact aj|exact aA
end
end Go.Proofs.YtlncengggmgdgaaGreat.par
namespace Go.Proofs.YtlncengggmgdgaaGreat.par
open Go
section
variable {σ : Nat → Nat} {D : Nat → Prop} {T : Tables} {F' F : Array Func}
theorem yX(op:BinOp)(k:IntKind)(a b:Int):ay σ D (⟨T,F'⟩:Program) (⟨T,F⟩:Program) (VR σ D) (Op.intArith op k a b) (Op.intArith op k a b):=by
 unfold Op.intArith
 cases op<;>first|exact ak (.int _ _)|exact aj
theorem QU(op:BinOp)(k:IntKind)(a b:Int):ay σ D (⟨T,F'⟩:Program) (⟨T,F⟩:Program) (VR σ D) (Op.intDiv op k a b) (Op.intDiv op k a b):=by
 unfold Op.intDiv
 refine aS (λ_=>dJ (.error _) rfl) (λ_=> ?_)
 cases op<;>first|exact ak (.int _ _)|exact aj
theorem Bc(op:BinOp)(k:IntKind)(a b:Int):ay σ D (⟨T,F'⟩:Program) (⟨T,F⟩:Program) (VR σ D) (Op.intBits op k a b) (Op.intBits op k a b):=by
 unfold Op.intBits
 cases op<;>first|exact ak (.int _ _)|exact aj
theorem IG(op:BinOp)(k:IntKind)(a:Int)(k':IntKind)(b:Int):ay σ D (⟨T,F'⟩:Program) (⟨T,F⟩:Program) (VR σ D) (Op.shift op k a k' b) (Op.shift op k a k' b):=by
 unfold Op.shift
 refine aS (λ_=>dJ (.error _) rfl) (λ_=> ?_)
 cases op<;>first|exact ak (.int _ _)|exact aj
theorem QV(op:BinOp)(a b:Int):ay σ D (⟨T,F'⟩:Program) (⟨T,F⟩:Program) (VR σ D) (Op.intCmp op a b) (Op.intCmp op a b):=by
 unfold Op.intCmp
 cases op<;>first|exact ak (.bool _)|exact aj
theorem U3(op:UnOp){a a':Value}(h:VR σ D a a'):ay σ D (⟨T,F'⟩:Program) (⟨T,F⟩:Program) (VR σ D) (Op.unary op a) (Op.unary op a'):=by
 cases op<;>cases h<;>first|exact yX .sub _ 0 _|exact Bc .xor _ _ _|exact ak (.float _ _)|exact ak (.complex _ _ _)|exact ak (.bool _)|exact aj|exact aA
theorem FW(t:TypeId){a a':Value}(h:VR σ D a a'):ay σ D (⟨T,F'⟩:Program) (⟨T,F⟩:Program) (VR σ D) (Instr.makeInterface t a) (Instr.makeInterface t a'):=by
 unfold Instr.makeInterface
 refine dA t (λd=> ?_)
 cases d<;>first|exact ak (.iface _ h)|exact aj
theorem II(f:FuncId)(h0:nd f=false){a a' c c':Array Value}(h:dI σ D a a')(k:dI σ D c c'):ay σ D (⟨T,F'⟩:Program) (⟨T,F⟩:Program) (VR σ D) (Instr.makeFunc (.func f) a c) (Instr.makeFunc (.func f) a' c'):=ak (.func f h.1 h.2 k.1 k.2 h0)
theorem acp(e:TypeId)(s:ByteArray):ay σ D (⟨T,F'⟩:Program) (⟨T,F⟩:Program) (VR σ D) (Conv.stringToBytes e s) (Conv.stringToBytes e s):=by
 unfold Conv.stringToBytes
 refine iK (λcap=> ?_)
 have hc:dI σ D (s.data.map (λb=>Value.int .u8 b.toNat)++Array.replicate (cap-s.size) (.int .u8 0)) (s.data.map (λb=>Value.int .u8 b.toNat)++Array.replicate (cap-s.size) (.int .u8 0)):=mJ (λx hx=>by
  rcases Array.mem_append.1 hx with hx|hx
  ·obtain⟨b,_,rfl⟩:=Array.mem_map.1 hx;rfl
  ·obtain⟨_,rfl⟩:=Array.mem_replicate.1 hx;rfl)
 refine mO hc (λa a' ha=> ?_)
 have e1:a'.block=σ a.block:=by rw[ha.2]
 refine ay.bind (R:=λ_ _=>True) ?_ (λ_ _ _=>ak (.slice ha _ _))
 unfold markStringish
 rw[e1]
 refine(ig ha.1).bind (λx y e=> ?_)
 subst e
 cases x with
 |none=>exact ak trivial
 |some p=>exact .freeze ⟨ha.1,rfl⟩ (.pure trivial)
theorem U4{a a':Value}(h:VR σ D a a'):ay σ D (⟨T,F'⟩:Program) (⟨T,F⟩:Program) (VR σ D) (Conv.bytesToString a) (Conv.bytesToString a'):=by
 unfold Conv.bytesToString
 cases h with
 |fK l c=>exact ak (.string _)
 |slice h l c=>
  refine(lJ h l 0 #[] #[] dI.nil).bind (λc c' hc=> ?_)
  refine ay.bind (R:=Eq) ?_ (λx y e=>by subst e;exact ak (.string _))
  rw[<-Array.forIn_toList,<-Array.forIn_toList]
  have key:∀(xs ys:List Value)(s:ByteArray),xs.length=ys.length->(∀(i:Nat)(x y:Value),xs[i]? =some x->ys[i]? =some y->VR σ D x y)->ay σ D (⟨T,F'⟩:Program) (⟨T,F⟩:Program) Eq
    (forIn xs s λc __s=>match c with
      |Value.int IntKind.u8 n=>Pure.pure (ForInStep.yield (__s.push (UInt8.ofNat n.toNat)))
      |x=>do
       stuck "bytesToString: byte expected"
       Pure.pure (ForInStep.yield __s))
    (forIn ys s λc __s=>match c with
      |Value.int IntKind.u8 n=>Pure.pure (ForInStep.yield (__s.push (UInt8.ofNat n.toNat)))
      |x=>do
       stuck "bytesToString: byte expected"
       Pure.pure (ForInStep.yield __s)):=by
   intro xs
   induction xs with
   |nil=>
    intro ys s hl hv
    cases ys with
    |nil=>exact ak rfl
    |cons y ys=>simp at hl
   |cons x xs ih=>
    intro ys s hl hv
    cases ys with
    |nil=>simp at hl
    |cons y ys=>
     simp only[List.forIn_cons]
     have h0:=hv 0 x y rfl rfl
     cases h0 with
     |int k n=>
      cases k with
      |u8=>exact ih ys _ (by simpa using hl) (λi a b ha hb=>hv (i+1) a b (by simpa using ha) (by simpa using hb))
      |_=>exact iC
     |_=>exact iC
  exact key _ _ _ (by simpa using hc.1) (λi x y hx hy=>hc.2 i x y (by simpa using hx) (by simpa using hy))
 |_=>exact aj
end
end Go.Proofs.YtlncengggmgdgaaGreat.par
namespace Go.Proofs.YtlncengggmgdgaaGreat.par
open Go
inductive Em{β β':Type}(R:β->β'->Prop):ForInStep β->ForInStep β'->Prop
 |yield {s:β} {s':β'} (h:R s s'):Em R (.yield s) (.yield s')
 |done {s:β} {s':β'} (h:R s s'):Em R (.done s) (.done s')
section
variable {σ : Nat → Nat} {D : Nat → Prop} {T : Tables} {F' F : Array Func}
theorem FX{ι β β':Type}{R:β->β'->Prop}{f:ι->β->Sem (ForInStep β)}{f':ι->β'->Sem (ForInStep β')}(h:∀x s s',R s s'->ay σ D (⟨T,F'⟩:Program) (⟨T,F⟩:Program) (Em R) (f x s) (f' x s')):∀(xs:List ι)(s:β)(s':β'),R s s'->ay σ D (⟨T,F'⟩:Program) (⟨T,F⟩:Program) R (forIn xs s f) (forIn xs s' f')
 |[],s,s',hs=>ak hs
 |x::xs,s,s',hs=>by
  simp only[List.forIn_cons]
  refine(h x s s' hs).bind (λa b hab=> ?_)
  cases hab with
  |yield h2=>exact FX h xs _ _ h2
  |done h2=>exact ak h2
theorem OY{ι β β':Type}{R:β->β'->Prop}{f:ι->β->Sem (ForInStep β)}{f':ι->β'->Sem (ForInStep β')}(h:∀x s s',R s s'->ay σ D (⟨T,F'⟩:Program) (⟨T,F⟩:Program) (Em R) (f x s) (f' x s'))(xs:Array ι)(s:β)(s':β')(hs:R s s'):ay σ D (⟨T,F'⟩:Program) (⟨T,F⟩:Program) R (forIn xs s f) (forIn xs s' f'):=by
 rw[<-Array.forIn_toList,<-Array.forIn_toList]
 exact FX h _ _ _ hs
theorem OZ{β β':Type}{R:β->β'->Prop}{f:Nat->β->Sem (ForInStep β)}{f':Nat->β'->Sem (ForInStep β')}(h:∀x s s',R s s'->ay σ D (⟨T,F'⟩:Program) (⟨T,F⟩:Program) (Em R) (f x s) (f' x s'))(n:Nat)(s:β)(s':β')(hs:R s s'):ay σ D (⟨T,F'⟩:Program) (⟨T,F⟩:Program) R (forIn [0:n] s f) (forIn [0:n] s' f'):=by
 rw[Std.Legacy.Range.forIn_eq_forIn_range',Std.Legacy.Range.forIn_eq_forIn_range']
 exact FX h _ _ _ hs
theorem vU{a a':Addr}(h:AR σ D a a'):ay σ D (⟨T,F'⟩:Program) (⟨T,F⟩:Program) Eq (stringish a) (stringish a'):=by
 unfold stringish
 have e1:a'.block=σ a.block:=by rw[h.2]
 rw[e1]
 refine(sK h).bind (λx y e=> ?_)
 subst e
 refine aS (λ_=>ak rfl) (λ_=> ?_)
 refine(ig h.1).bind (λx y e=> ?_)
 subst e
 cases x with
 |none=>exact ak rfl
 |some p=>exact sK ⟨h.1,rfl⟩
theorem yY(hinj:∀r r',D r->D r'->σ r=σ r'->r=r'){a a' b b':Addr}(ha:AR σ D a a')(hb:AR σ D b b'):ay σ D (⟨T,F'⟩:Program) (⟨T,F⟩:Program) Eq (sameAddr a b) (sameAddr a' b'):=by
 unfold sameAddr
 have eb:(a'.block==b'.block)=(a.block==b.block):=by
  rw[Bool.eq_iff_iff]
  simp only[beq_iff_eq]
  constructor
  ·intro h
   rw[ha.2,hb.2]at h
   exact hinj _ _ ha.1 hb.1 h
  ·intro h
   rw[ha.2,hb.2]
   exact congrArg σ h
 have ee:(a'==b')=(a==b):=by
  rw[Bool.eq_iff_iff]
  simp only[beq_iff_eq]
  constructor
  ·intro h
   have h1:a'.block=b'.block:=by rw[h]
   have h2:a'.off=b'.off:=by rw[h]
   have h3:a'.spot=b'.spot:=by rw[h]
   rw[ha.2,hb.2]at h1 h2 h3
   have h4:=hinj _ _ ha.1 hb.1 h1
   cases a;cases b
   dsimp only at h2 h3 h4
   subst h2 h3 h4
   rfl
  ·intro h
   rw[ha.2,hb.2,h]
 rw[eb,ee]
 refine aS (λ_=>ak rfl) (λ_=> ?_)
 refine(sK ha).bind (λx y e=> ?_)
 subst e
 refine(sK hb).bind (λz y e=> ?_)
 subst e
 dsimp only
 refine aS (λ_=>eF) (λ_=> ?_)
 refine(xW ha).bind (λ_ _ _=> ?_)
 refine(xW hb).bind (λ_ _ _=> ?_)
 refine ay.bind (R:=Eq) ?_ (λx y e=> ?_)
 ·unfold mayBeOne
  have none:∀{x x':Addr},AR σ D x x'->ay σ D (⟨T,F'⟩:Program) (⟨T,F⟩:Program) Eq (do Pure.pure ((<-shape x.block) matches some (_,0)):Sem Bool) (do Pure.pure ((<-shape x'.block) matches some (_,0)):Sem Bool):=by
   intro x x' hx
   have e1:x'.block=σ x.block:=by rw[hx.2]
   rw[e1]
   exact(ig hx.1).bind (λp q e=>by subst e;exact ak rfl)
  refine(vU ha).bind (λp q e=> ?_)
  subst e
  refine(vU hb).bind (λp2 q e=> ?_)
  subst e
  refine(none ha).bind (λq1 q e=> ?_)
  subst e
  refine(none hb).bind (λq2 q e=> ?_)
  subst e
  exact ak rfl
 ·subst e
  exact aS (λ_=>iK (λ_=>ak rfl)) (λ_=>ak rfl)
theorem pF:∀(d:Nat)(t:TypeId){a a' b b':Value},VR σ D a a'->VR σ D b b'->ay σ D (⟨T,F'⟩:Program) (⟨T,F⟩:Program) Eq (Op.eqGuardIn d t a b) (Op.eqGuardIn d t a' b')
 |0,t,a,a',b,b',ha,hb=>aA
 |d+1,t,a,a',b,b',ha,hb=>by
  unfold Op.eqGuardIn
  refine dA t (λu=> ?_)
  have body:∀{x x' y y':Array Value}(ft:TypeId)(o:Nat)(s s':Option Bool×Unit),dI σ D x x'->dI σ D y y'->s=s'->ay σ D (⟨T,F'⟩:Program) (⟨T,F⟩:Program) (Em Eq)
    (do let p<-part ft x o;let q<-part ft y o;let r<-Op.eqGuardIn d ft p q;if r=true then Pure.pure (ForInStep.done (some true,()))else Pure.pure (ForInStep.yield (none,())))
    (do let p<-part ft x' o;let q<-part ft y' o;let r<-Op.eqGuardIn d ft p q;if r=true then Pure.pure (ForInStep.done (some true,()))else Pure.pure (ForInStep.yield (none,()))):=by
   intro x x' y y' ft o s s' hx hy e
   refine(nJ ft hx o).bind (λp p' hp=> ?_)
   refine(nJ ft hy o).bind (λq q' hq=> ?_)
   refine(pF d ft hp hq).bind (λr r' e=> ?_)
   subst e
   exact aS (λ_=>ak (.done rfl)) (λ_=>ak (.yield rfl))
  cases u with
  |interface ms=>cases ha<;>cases hb<;>first|exact ak rfl|(refine(show ay σ D (⟨T,F'⟩:Program) (⟨T,F⟩:Program) Eq (Pure.pure false) _ from ?_);split<;>first|exact ak rfl|(exfalso;simp_all[UN]))
  |struct fs=>
   cases ha with
   |agg h1 h2=>
    cases hb with
    |agg h3 h4=>
     refine ay.bind (R:=Eq) (OY (λf s s' e=> ?_) fs _ _ rfl) (λa b e=>by subst e;obtain⟨x,z⟩:=a;cases x<;>exact ak rfl)
     exact aS (λ_=>body f.type f.offset s s' ⟨h1,h2⟩ ⟨h3,h4⟩ e) (λ_=>ak (.yield rfl))
    |undef v hv=>refine(show ay σ D (⟨T,F'⟩:Program) (⟨T,F⟩:Program) Eq (Pure.pure false) _ from ?_);split<;>first|exact ak rfl|(exfalso;simp_all[UN])
    |_=>exact ak rfl
   |undef v hv=>refine(show ay σ D (⟨T,F'⟩:Program) (⟨T,F⟩:Program) Eq (Pure.pure false) _ from ?_);split<;>first|exact ak rfl|(exfalso;simp_all[UN])
   |_=>exact ak rfl
  |array len el=>
   cases ha with
   |agg h1 h2=>
    cases hb with
    |agg h3 h4=>
     refine bI _ (λn=> ?_)
     refine ay.bind (R:=Eq) (OZ (λi s s' e=> ?_) len _ _ rfl) (λa b e=>by subst e;obtain⟨x,z⟩:=a;cases x<;>exact ak rfl)
     exact body el (i*n) s s' ⟨h1,h2⟩ ⟨h3,h4⟩ e
    |undef v hv=>refine(show ay σ D (⟨T,F'⟩:Program) (⟨T,F⟩:Program) Eq (Pure.pure false) _ from ?_);split<;>first|exact ak rfl|(exfalso;simp_all[UN])
    |_=>exact ak rfl
   |undef v hv=>refine(show ay σ D (⟨T,F'⟩:Program) (⟨T,F⟩:Program) Eq (Pure.pure false) _ from ?_);split<;>first|exact ak rfl|(exfalso;simp_all[UN])
   |_=>exact ak rfl
  |_=>exact ak rfl
end
end Go.Proofs.YtlncengggmgdgaaGreat.par
namespace Go.Proofs.YtlncengggmgdgaaGreat.par
open Go
def qU(i:TypeInfo):Prop:=∀v,i.zero=some v->oq v
theorem Bf{v:Value}(h:oq v):∀x∈v.cells,oq x:=by
 intro x hx σ D
 obtain⟨i,hi⟩:=Array.mem_iff_getElem?.1 hx
 exact(iV (h σ D)).2 i x x hi hi
theorem vV{c:Array Value}(h:∀x∈c,oq x):oq (.agg c):=λσ D=>.agg rfl λi x y hx hy=>by
 rw[hx]at hy
 cases hy
 exact h x (Array.mem_of_getElem? hx) σ D
theorem IJ{α β:Type}{P:β->Prop}{f:α->β->Option (ForInStep β)}(hf:∀a b s,f a b=some s->P b->P (match s with| .done c=>c| .yield c=>c)):∀(l:List α)(b r:β),forIn l b f=some r->P b->P r:=by
 intro l
 induction l with
 |nil=>intro b r h hb;simp at h;exact h▸hb
 |cons a l ih=>
  intro b r h hb
  simp only[List.forIn_cons]at h
  cases hs:f a b with
  |none=>rw[hs]at h;simp at h
  |some s=>
   rw[hs]at h
   have h1:=hf a b s hs hb
   cases s with
   |done c=>simp at h;exact h▸h1
   |yield c=>exact ih c r (by simpa using h) h1
theorem sS{d:TypeDesc}{s:String}{z:Value}{c:Bool}{n:Nat}(hz:oq z):qU (Made.word d s z c n):=λv hv=>by
 cases hv
 exact hz
theorem QW{info:TypeId->Option TypeInfo}(hi:∀t i,info t=some i->qU i){fs:Array Field}{i:TypeInfo}(h:Made.reckonStruct info fs=some i):qU i:=by
 unfold Made.reckonStruct at h
 simp only[Option.bind_eq_bind,Option.bind_eq_some_iff,Option.pure_def]at h
 obtain⟨r,h1,h2⟩:=h
 rw[<-Array.forIn_toList]at h1
 have hz:∀c,r.2.2.2.2.2.2.2.1=some c->∀x∈c,oq x:=by
  refine IJ (P:=λr=>∀c,r.2.2.2.2.2.2.2.1=some c->∀x∈c,oq x) (λf b s hs hb=> ?_) _ _ r h1 (λc hc x hx=> ?_)
  ·obtain⟨j,hj,hs⟩:=Option.bind_eq_some_iff.1 hs
   have key:∀c,(if b.2.1+j.size>Made.mostCells then none else b.2.2.2.2.2.2.2.1.bind λx=>j.zero.bind λy=>some (x++y.cells))=some c->∀x∈c,oq x:=by
    intro c hc
    split at hc
    ·cases hc
    ·obtain⟨x,hx,hc⟩:=Option.bind_eq_some_iff.1 hc
     obtain⟨y,hy,hc⟩:=Option.bind_eq_some_iff.1 hc
     cases hc
     intro v hv
     rcases Array.mem_append.1 hv with h3|h3
     ·exact hb x hx v h3
     ·exact Bf (hi _ _ hj y hy) v h3
   split at hs
   ·simp at hs
   split at hs
   ·simp at hs
   split at hs
   all_goals
    obtain⟨tag,_,hs⟩:=Option.bind_eq_some_iff.1 hs
    split at hs
    all_goals
     cases hs
     exact key
  ·cases hc
   simp at hx
 have fin:∀v,Option.map Value.agg r.2.2.2.2.2.2.2.1=some v->oq v:=by
  intro v hv
  obtain⟨c,hc,rfl⟩:=Option.map_eq_some_iff.1 hv
  exact vV (hz c hc)
 split at h2
 all_goals
  cases h2
  exact fin
theorem QX{info:TypeId->Option TypeInfo}(hi:∀t i,info t=some i->qU i){d:TypeDesc}{i:TypeInfo}(h:Made.reckon info d=some i):qU i:=by
 unfold Made.reckon at h
 cases d with
 |struct fs=>exact QW hi h
 |array n e=>
  simp only[Option.bind_eq_bind,Option.bind_eq_some_iff,Option.pure_def,Option.some.injEq]at h
  obtain⟨j,h1,s,h2,rfl⟩:=h
  intro v hv
  dsimp only at hv
  split at hv
  ·cases hv
  ·split at hv
   ·cases hv;exact vV (by simp)
   ·obtain⟨z,hz,rfl⟩:=Option.map_eq_some_iff.1 hv
    refine vV λx hx=> ?_
    obtain⟨c,hc,hx⟩:=Array.mem_flatten.1 hx
    obtain rfl:=(Array.mem_replicate.1 hc).2
    exact Bf (hi _ _ h1 z hz) x hx
 |pointer e=>
  simp only[Option.bind_eq_bind,Option.bind_eq_some_iff,Option.pure_def,Option.some.injEq,reduceCtorEq]at h
  obtain⟨j,h1,h2⟩:=h
  split at h2
  ·cases h2
  ·split at h2
   ·cases h2
   ·obtain⟨s,_,h3⟩:=Option.bind_eq_some_iff.1 h2
    cases h3
    exact sS λσ D=>.bT
  ·obtain⟨s,_,h3⟩:=Option.bind_eq_some_iff.1 h2
   cases h3
   exact sS λσ D=>.bT
 |slice e=>
  simp only[Option.bind_eq_bind,Option.bind_eq_some_iff,Option.pure_def,Option.some.injEq,reduceCtorEq]at h
  obtain⟨_,_,_,_,rfl⟩:=h
  exact sS λσ D=>.fK 0 0
 |map k e=>
  simp only[Option.bind_eq_bind,Option.bind_eq_some_iff,Option.pure_def,Option.some.injEq,reduceCtorEq]at h
  obtain⟨_,_,_,_,_,_,_,_,rfl⟩:=h
  exact sS λσ D=>.jy
 |chan dir e=>
  simp only[Option.bind_eq_bind,Option.bind_eq_some_iff,Option.pure_def,Option.some.injEq,reduceCtorEq]at h
  obtain⟨_,_,_,_,rfl⟩:=h
  exact sS λσ D=>.jg
 |func ps rs v=>
  simp only[Option.bind_eq_bind,Option.bind_eq_some_iff,Option.pure_def,Option.some.injEq,reduceCtorEq]at h
  obtain⟨_,_,rfl⟩:=h
  exact sS λσ D=>.jh
 |_=>first|cases h|(dsimp only at h;cases h)
theorem YT(T:Tables)(hT:∀(t:Nat)(i:TypeInfo),T.types[t]? =some i->qU i):∀(n:Nat)(t:TypeId)(i:TypeInfo),Made.infoAt T n t=some i->qU i:=by
 intro n
 induction n with
 |zero=>intro t i h;simp[Made.infoAt]at h
 |succ n ih=>
  intro t i h
  unfold Made.infoAt at h
  split at h
  ·exact hT t i h
  ·obtain⟨d,_,h2⟩:=Option.bind_eq_some_iff.1 h
   exact QX ih h2
theorem aeW(T:Tables)(hT:∀(t:Nat)(i:TypeInfo),T.types[t]? =some i->qU i)(hw:∀i,T.info? UC=some i->i.methods.find? (λm=>m.name== "")=none)(he:T=vG):ZP T:=by
 refine⟨?_,hw,he⟩
 intro t i v h hv
 unfold Tables.info? at h
 split at h
 ·exact hT t i h v hv
 ·exact YT T hT _ t i h v hv
def En:Nat->Value->Bool
 |n+1,.agg cs=>cs.all (En n)
 |n+1,.tuple cs=>cs.all (En n)
 |_,v=>kD v
theorem YU:∀(n:Nat)(v:Value),En n v=true->oq v:=by
 intro n
 induction n with
 |zero=>intro v h σ D;exact iU (by unfold En at h;exact h)
 |succ n ih=>
  intro v h
  unfold En at h
  split at h
  ·rename_i cs heq
   rw[Array.all_eq_true_iff_forall_mem]at h
   exact vV λx hx=>ih x (by simp_all)
  ·rw[Array.all_eq_true_iff_forall_mem]at h
   intro σ D
   refine .tuple rfl λi x y hx hy=> ?_
   rw[hx]at hy
   cases hy
   exact ih x (by simp_all[Array.mem_of_getElem? hx]) σ D
  ·exactλσ D=>iU h
end Go.Proofs.YtlncengggmgdgaaGreat.par
