/- The relation, operation by operation: ==. No conditions. -/
import Derived.Test.YtlncengggmgdgaaGreatG03
set_option linter.unusedVariables false
set_option linter.unusedSimpArgs false
namespace Go.Proofs.YtlncengggmgdgaaGreat.par
open Go
section
variable {σ : Nat → Nat} {D : Nat → Prop} {T : Tables} {F' F : Array Func}
inductive NbR(σ:Nat->Nat)(D:Nat->Prop):Option (Addr×Bool)->Option (Addr×Bool)->Prop
 |none:NbR σ D none none
 |some {a a':Addr} (h:AR σ D a a') (l:Bool):NbR σ D (some (a,l)) (some (a',l))
theorem yZ{r:Nat}(h:D r):ay σ D (⟨T,F'⟩:Program) (⟨T,F⟩:Program) (NbR σ D) (numberAt r) (numberAt (σ r)):=by
 unfold numberAt
 refine(ig h).bind (λa b e=> ?_)
 subst e
 split
 ·exact ak .none
 ·refine .getObj h (λo o' ho=> ?_)
  cases ho with
  |number ha l=>exact ak (.some ha l)
  |_=>exact ak .none
theorem iW{a a':Addr}(h:AR σ D a a'):ay σ D (⟨T,F'⟩:Program) (⟨T,F⟩:Program) (λx y=>AR σ D x.1 y.1/\x.2=y.2) (behindNumber a) (behindNumber a'):=by
 unfold behindNumber
 have e1:a'.block=σ a.block:=by rw[h.2]
 rw[e1]
 refine(yZ h.1).bind (λx y hxy=> ?_)
 cases hxy with
 |none=>exact ak ⟨h,rfl⟩
 |some ha l=>exact ak ⟨ha,rfl⟩
theorem IK(hinj:∀r r',D r->D r'->σ r=σ r'->r=r'){a a' b b':Addr}(ha:AR σ D a a')(hb:AR σ D b b'):(a'==b')=(a==b):=by
 rw[Bool.eq_iff_iff]
 simp only[beq_iff_eq]
 constructor
 ·intro h
  have h1:a'.block=b'.block:=by rw[h]
  have h2:a'.off=b'.off:=by rw[h]
  have h3:a'.spot=b'.spot:=by rw[h]
  rw[ha.2,hb.2]at h1 h2 h3
  have h4:=hinj _ _ ha.1 hb.1 h1
  cases a;cases b
  dsimp only at h2 h3 h4
  subst h2 h3 h4
  rfl
 ·intro h
  rw[ha.2,hb.2,h]
theorem Eo(hinj:∀r r',D r->D r'->σ r=σ r'->r=r'){a a' b b':Addr}(ha:AR σ D a a')(hb:AR σ D b b'):(a'.block==b'.block)=(a.block==b.block):=by
 rw[Bool.eq_iff_iff]
 simp only[beq_iff_eq]
 constructor
 ·intro h
  rw[ha.2,hb.2]at h
  exact hinj _ _ ha.1 hb.1 h
 ·intro h
  rw[ha.2,hb.2]
  exact congrArg σ h
theorem LZ(hinj:∀r r',D r->D r'->σ r=σ r'->r=r'){p p' q q':Option Addr}(hp:uH (AR σ D) p p')(hq:uH (AR σ D) q q'):ay σ D (⟨T,F'⟩:Program) (⟨T,F⟩:Program) Eq (samePointer p q) (samePointer p' q'):=by
 cases hp<;>cases hq<;>first|exact ak rfl|exact yY hinj (by assumption) (by assumption)
structure TE(T:Tables)(F' F:Array Func):Prop where
 stood:∀t,Program.stoodInHeld (⟨T,F'⟩:Program) t=Program.stoodInHeld (⟨T,F⟩:Program) t
 packed:∀d t,Program.holdsPacked (⟨T,F'⟩:Program) d t=Program.holdsPacked (⟨T,F⟩:Program) d t
def eqK(d:Nat)(t:TypeId)(x y:Value):{K:TypeDesc->Sem Bool//Op.equalIn (d+1) t x y=underlying t>>=K}:=⟨_,rfl⟩
def EqD(σ:Nat->Nat)(D:Nat->Prop)(T:Tables)(F' F:Array Func)(d:Nat):Prop:=∀(t:TypeId){a a' b b':Value},VR σ D a a'->VR σ D b b'->ay σ D (⟨T,F'⟩:Program) (⟨T,F⟩:Program) Eq (Op.equalIn d t a b) (Op.equalIn d t a' b')
section
variable {d : Nat} {t : TypeId} {a a' b b' : Value}
theorem YV(ha:VR σ D a a')(hb:VR σ D b b'):ay σ D (⟨T,F'⟩:Program) (⟨T,F⟩:Program) Eq ((eqK d t a b).1 .bool) ((eqK d t a' b').1 .bool):=by
 cases ha with
 |bool x=>cases hb<;>first|exact ak rfl|exact aj
 |_=>exact aj
theorem U5(k:FloatKind)(ha:VR σ D a a')(hb:VR σ D b b'):ay σ D (⟨T,F'⟩:Program) (⟨T,F⟩:Program) Eq ((eqK d t a b).1 (.float k)) ((eqK d t a' b').1 (.float k)):=by
 cases ha with
 |float x=>cases hb<;>first|exact aj|exact aS (λ_=>ak rfl) (λ_=>aj)
 |_=>exact aj
theorem L6(k:FloatKind)(ha:VR σ D a a')(hb:VR σ D b b'):ay σ D (⟨T,F'⟩:Program) (⟨T,F⟩:Program) Eq ((eqK d t a b).1 (.complex k)) ((eqK d t a' b').1 (.complex k)):=by
 cases ha with
 |complex x=>cases hb<;>first|exact aj|exact aS (λ_=>ak rfl) (λ_=>aj)
 |_=>exact aj
theorem QY(ha:VR σ D a a')(hb:VR σ D b b'):ay σ D (⟨T,F'⟩:Program) (⟨T,F⟩:Program) Eq ((eqK d t a b).1 .string) ((eqK d t a' b').1 .string):=by
 cases ha with
 |string x=>cases hb<;>first|exact ak rfl|exact aj
 |_=>exact aj
theorem U6(e:TypeId)(ha:VR σ D a a')(hb:VR σ D b b'):ay σ D (⟨T,F'⟩:Program) (⟨T,F⟩:Program) Eq ((eqK d t a b).1 (.slice e)) ((eqK d t a' b').1 (.slice e)):=by
 cases ha with
 |fK l c=>cases hb<;>first|exact ak rfl|exact aj
 |slice h l c=>cases hb<;>first|exact ak rfl|exact aj
 |_=>exact aj
theorem acr(k e:TypeId)(ha:VR σ D a a')(hb:VR σ D b b'):ay σ D (⟨T,F'⟩:Program) (⟨T,F⟩:Program) Eq ((eqK d t a b).1 (.map k e)) ((eqK d t a' b').1 (.map k e)):=by
 cases ha with
 |jy=>cases hb<;>first|exact ak rfl|exact aj
 |map h=>cases hb<;>first|exact ak rfl|exact aj
 |_=>exact aj
theorem YW(p r:Array TypeId)(v:Bool)(ha:VR σ D a a')(hb:VR σ D b b'):ay σ D (⟨T,F'⟩:Program) (⟨T,F⟩:Program) Eq ((eqK d t a b).1 (.func p r v)) ((eqK d t a' b').1 (.func p r v)):=by
 cases ha with
 |jh=>cases hb<;>first|exact ak rfl|exact aj
 |func fn h1 h2 h3 h4 h0=>cases hb<;>first|exact ak rfl|exact aj
 |weird m f c=>cases hb<;>first|exact ak rfl|exact aj
 |yield h=>cases hb<;>first|exact ak rfl|exact aj
 |_=>exact aj
theorem YX(x:ChanDir)(e:TypeId)(ha:VR σ D a a')(hb:VR σ D b b'):ay σ D (⟨T,F'⟩:Program) (⟨T,F⟩:Program) Eq ((eqK d t a b).1 (.chan x e)) ((eqK d t a' b').1 (.chan x e)):=by
 cases ha with
 |jg=>cases hb<;>first|exact ak rfl|exact aj
 |_=>exact aj
theorem QZ(hinj:∀r r',D r->D r'->σ r=σ r'->r=r')(ha:VR σ D a a')(hb:VR σ D b b'):ay σ D (⟨T,F'⟩:Program) (⟨T,F⟩:Program) Eq ((eqK d t a b).1 .unsafePointer) ((eqK d t a' b').1 .unsafePointer):=by
 cases ha with
 |bT=>cases hb<;>first|exact ak rfl|exact aj
 |ptr h1=>cases hb<;>first|exact ak rfl|exact aj|exact LZ hinj (.some h1) (.some (by assumption))
 |_=>exact aj
theorem L8(hinj:∀r r',D r->D r'->σ r=σ r'->r=r')(e:TypeId)(ha:VR σ D a a')(hb:VR σ D b b'):ay σ D (⟨T,F'⟩:Program) (⟨T,F⟩:Program) Eq ((eqK d t a b).1 (.pointer e)) ((eqK d t a' b').1 (.pointer e)):=by
 cases ha with
 |bT=>cases hb<;>first|exact ak rfl|exact aj
 |ptr h1=>
  cases hb with
  |bT=>exact ak rfl
  |ptr h2=>
   exact bI _ (λn=>aS (λ_=>yY hinj h1 h2) (λ_=>by
    rw[IK hinj h1 h2]
    exact aS (λ_=>ak rfl) (λ_=>(sJ _).bind (λx y e=>by subst e;exact ak rfl))))
  |_=>exact aj
 |_=>exact aj
theorem eq_int(hinj:∀r r',D r->D r'->σ r=σ r'->r=r')(hG:∀r,D r->(σ r<T.globals.size↔r<T.globals.size))(k:IntKind)(ha:VR σ D a a')(hb:VR σ D b b'):ay σ D (⟨T,F'⟩:Program) (⟨T,F⟩:Program) Eq ((eqK d t a b).1 (.int k)) ((eqK d t a' b').1 (.int k)):=by
 cases ha with
 |int k1 n=>
  cases hb with
  |int k2 m=>exact aS (λ_=>ak rfl) (λ_=>aj)
  |bT=>exact aA
  |ptr h2=>
   by_cases hn:n=0
   ·subst hn;exact ak rfl
   ·have e1:∀p,(eqK d t (.int k1 n) (.pointer (some p))).1 (.int k)=unsupported .addressObserved:=λp=>by
     dsimp only[eqK]
     split<;>first|rfl|(exfalso;simp_all;done)|(rename_i h _ _ _;exact absurd (by injections) hn)
    rw[e1]
    exact aA
  |_=>exact aj
 |bT=>cases hb<;>exact aA
 |ptr h1=>
  cases hb with
  |int k2 n=>
   by_cases hn:n=0
   ·subst hn;exact ak rfl
   ·have e1:∀p,(eqK d t (.pointer (some p)) (.int k2 n)).1 (.int k)=unsupported .addressObserved:=λp=>by
     dsimp only[eqK]
     split<;>first|rfl|(exfalso;simp_all;done)
    rw[e1]
    exact aA
  |ptr h2=>
   refine(iW h1).bind (λx y⟨hx,_⟩=> ?_)
   refine(iW h2).bind (λx2 y2⟨hx2,_⟩=> ?_)
   dsimp only
   refine dh ?_
   dsimp only
   rw[Eo hinj hx hx2,IK hinj hx hx2]
   have eg:decide (y.1.block<T.globals.size)=decide (x.1.block<T.globals.size):=by
    have h3:=hG _ hx.1
    rw[hx.2]
    simp only[decide_eq_decide]
    exact h3
   rw[eg]
   refine aS (λ_=> ?_) (λ_=> ?_)
   ·refine(kH hx).bind (λp q e=> ?_)
    subst e
    refine(kH hx2).bind (λp2 q e=> ?_)
    subst e
    exact ak rfl
   ·refine jv _ (λi _=> ?_)
    split
    ·exact aS (λ_=>ak rfl) (λ_=>aA)
    ·exact aA
  |_=>exact aA
 |_=>first|exact aj|(cases hb<;>first|exact aj|exact aA)
theorem U7(ih:EqD σ D T F' F d)(te:TE T F' F)(ms:Array (String×TypeId))(ha:VR σ D a a')(hb:VR σ D b b'):ay σ D (⟨T,F'⟩:Program) (⟨T,F⟩:Program) Eq ((eqK d t a b).1 (.interface ms)) ((eqK d t a' b').1 (.interface ms)):=by
 cases ha with
 |iH=>cases hb<;>first|exact ak rfl|exact aj
 | @iface tx vx vx' hx=>
  cases hb with
  |iH=>exact ak rfl
  | @iface ty vy vy' hy=>
   refine aS (λ_=>ak rfl) (λ_=> ?_)
   refine jv _ (λi _=> ?_)
   dsimp only
   refine aS (λ_=> ?_) (λ_=>ih tx hx hy)
   refine dh ?_
   refine dh ?_
   have e0:(⟨T,F'⟩:Program).depth=(⟨T,F⟩:Program).depth:=rfl
   rw[te.packed,e0]
   refine aS (λ_=>eF) (λ_=> ?_)
   have h0:ay σ D (⟨T,F'⟩:Program) (⟨T,F⟩:Program) Eq (typeStr tx) (typeStr tx):=by
    unfold typeStr
    refine jv _ (λi _=> ?_)
    dsimp only
    exact aS (λ_=>aA) (λ_=>ak rfl)
   refine h0.bind (λx y e=> ?_)
   subst e
   exact dJ (.error _) rfl
  |_=>exact aj
 |_=>exact aj
theorem Q5(ih:EqD σ D T F' F d)(te:TE T F' F)(fs:Array Field)(ha:VR σ D a a')(hb:VR σ D b b'):ay σ D (⟨T,F'⟩:Program) (⟨T,F⟩:Program) Eq ((eqK d t a b).1 (.struct fs)) ((eqK d t a' b').1 (.struct fs)):=by
 cases ha with
 |agg h1 h2=>
  cases hb with
  |agg h3 h4=>
   refine dh ?_
   rw[te.stood]
   refine aS (λ_=>eF) (λ_=> ?_)
   refine ay.bind (R:=Eq) (OY (λf s s' e=> ?_) fs _ _ rfl) (λa b e=>by subst e;obtain⟨x,z⟩:=a;cases x<;>exact ak rfl)
   refine aS (λ_=> ?_) (λ_=>ak (.yield rfl))
   refine(nJ f.type ⟨h1,h2⟩ _).bind (λp p' hp=> ?_)
   refine(nJ f.type ⟨h3,h4⟩ _).bind (λq q' hq=> ?_)
   refine(ih f.type hp hq).bind (λr r' e=> ?_)
   subst e
   exact aS (λ_=>ak (.done rfl)) (λ_=>ak (.yield rfl))
  |_=>exact aj
 |_=>exact aj
theorem U8(ih:EqD σ D T F' F d)(len:Nat)(el:TypeId)(ha:VR σ D a a')(hb:VR σ D b b'):ay σ D (⟨T,F'⟩:Program) (⟨T,F⟩:Program) Eq ((eqK d t a b).1 (.array len el)) ((eqK d t a' b').1 (.array len el)):=by
 cases ha with
 |agg h1 h2=>
  cases hb with
  |agg h3 h4=>
   refine bI _ (λn=> ?_)
   refine ay.bind (R:=Eq) (OZ (λi s s' e=> ?_) len _ _ rfl) (λa b e=>by subst e;obtain⟨x,z⟩:=a;cases x<;>exact ak rfl)
   refine(nJ el ⟨h1,h2⟩ _).bind (λp p' hp=> ?_)
   refine(nJ el ⟨h3,h4⟩ _).bind (λq q' hq=> ?_)
   refine(ih el hp hq).bind (λr r' e=> ?_)
   subst e
   exact aS (λ_=>ak (.done rfl)) (λ_=>ak (.yield rfl))
  |_=>exact aj
 |_=>exact aj
end
theorem Bh(te:TE T F' F)(hinj:∀r r',D r->D r'->σ r=σ r'->r=r')(hG:∀r,D r->(σ r<T.globals.size↔r<T.globals.size)):∀d,EqD σ D T F' F d
 |0,t,a,a',b,b',ha,hb=>aA
 |d+1,t,a,a',b,b',ha,hb=>by
  have ih:=Bh te hinj hG d
  rw[(eqK d t a b).2,(eqK d t a' b').2]
  refine dA t (λu=> ?_)
  cases u with
  |bool=>exact YV ha hb
  |int k=>exact eq_int hinj hG k ha hb
  |float k=>exact U5 k ha hb
  |complex k=>exact L6 k ha hb
  |string=>exact QY ha hb
  |unsafePointer=>exact QZ hinj ha hb
  |pointer e=>exact L8 hinj e ha hb
  |slice e=>exact U6 e ha hb
  |array n e=>exact U8 ih n e ha hb
  |map k e=>exact acr k e ha hb
  |chan x e=>exact YX x e ha hb
  |struct fs=>exact Q5 ih te fs ha hb
  |func p r v=>exact YW p r v ha hb
  |interface ms=>exact U7 ih te ms ha hb
  |_=>exact aj
theorem IL(te:TE T F' F)(hinj:∀r r',D r->D r'->σ r=σ r'->r=r')(hG:∀r,D r->(σ r<T.globals.size↔r<T.globals.size))(t:TypeId){a a' b b':Value}(ha:VR σ D a a')(hb:VR σ D b b'):ay σ D (⟨T,F'⟩:Program) (⟨T,F⟩:Program) Eq (Op.equal t a b) (Op.equal t a' b'):=Bh te hinj hG _ t ha hb
end
end Go.Proofs.YtlncengggmgdgaaGreat.par
namespace Go.Proofs.YtlncengggmgdgaaGreat.par
open Go
section
variable {T : Tables} {F' F : Array Func}
theorem Bj:∀n,Program.alikeButTags (⟨T,F'⟩:Program) n=Program.alikeButTags (⟨T,F⟩:Program) n
 |0=>rfl
 |n+1=>by
  funext t u
  unfold Program.alikeButTags
  rw[Bj n]
theorem FY(t:TypeId):Program.stoodInAs (⟨T,F'⟩:Program) t=Program.stoodInAs (⟨T,F⟩:Program) t:=by
 unfold Program.stoodInAs
 have e:(⟨T,F'⟩:Program).depth=(⟨T,F⟩:Program).depth:=rfl
 rw[e,Bj (F':=F') (F:=F)]
 rfl
theorem qV(t:TypeId):Program.stoodInHeld (⟨T,F'⟩:Program) t=Program.stoodInHeld (⟨T,F⟩:Program) t:=by
 unfold Program.stoodInHeld
 rw[FY (F':=F') (F:=F)]
theorem Q7(t:TypeId):Program.packed (⟨T,F'⟩:Program) t=Program.packed (⟨T,F⟩:Program) t:=by
 unfold Program.packed Program.packedAs
 have e:(⟨T,F'⟩:Program).depth=(⟨T,F⟩:Program).depth:=rfl
 rw[e,Bj (F':=F') (F:=F)]
 rfl
theorem qW:∀d,Program.holdsPacked (⟨T,F'⟩:Program) d=Program.holdsPacked (⟨T,F⟩:Program) d
 |0=>rfl
 |d+1=>by
  funext t
  unfold Program.holdsPacked
  rw[Q7 (F':=F') (F:=F),qW d]
  rfl
theorem qx:∀d,Program.holdsStoodIn (⟨T,F'⟩:Program) d=Program.holdsStoodIn (⟨T,F⟩:Program) d
 |0=>rfl
 |d+1=>by
  funext t
  unfold Program.holdsStoodIn
  rw[qV (F':=F') (F:=F),qx d]
  rfl
theorem qX:∀d,Program.eqGuardType (⟨T,F'⟩:Program) d=Program.eqGuardType (⟨T,F⟩:Program) d
 |0=>rfl
 |d+1=>by
  funext t
  unfold Program.eqGuardType
  rw[qX d]
  rfl
theorem U9:TE T F' F:=⟨qV,λd t=>by rw[qW (F':=F') (F:=F)]⟩
theorem uD:∀d,sameLayout (⟨T,F'⟩:Program) d=sameLayout (⟨T,F⟩:Program) d
 |0=>rfl
 |d+1=>by
  funext t u
  unfold sameLayout
  rw[qV (F':=F') (F:=F),qV (F':=F') (F:=F),uD d]
  rfl
theorem IQ(fits:TypeId->Bool):∀d,rowAt (⟨T,F'⟩:Program) fits d=rowAt (⟨T,F⟩:Program) fits d
 |0=>rfl
 |d+1=>by
  funext e c o n
  unfold rowAt
  rw[qV (F':=F') (F:=F),IQ fits d]
  rfl
theorem Ep:∀d,liesAt (⟨T,F'⟩:Program) d=liesAt (⟨T,F⟩:Program) d
 |0=>rfl
 |d+1=>by
  funext e c o u n
  unfold liesAt
  have e:(⟨T,F'⟩:Program).depth=(⟨T,F⟩:Program).depth:=rfl
  rw[e,uD (F':=F') (F:=F),IQ (F':=F') (F:=F),Ep d]
  rfl
theorem uF:∀d,cellOfByte (⟨T,F'⟩:Program) d=cellOfByte (⟨T,F⟩:Program) d
 |0=>rfl
 |d+1=>by
  funext t b
  unfold cellOfByte
  rw[uF d]
  rfl
theorem D7(d:Nat):byteOfCell (⟨T,F'⟩:Program) d=byteOfCell (⟨T,F⟩:Program) d:=funext λt=>funext λo=>ji d t o
theorem qY(d:Nat)(e:TypeId)(c o:Nat)(b:Int):cellAtBytes (⟨T,F'⟩:Program) d e c o b=cellAtBytes (⟨T,F⟩:Program) d e c o b:=by
 unfold cellAtBytes
 rw[uF (F':=F') (F:=F),D7 (F':=F') (F:=F)]
 rfl
end
section
variable {σ : Nat → Nat} {D : Nat → Prop} {T : Tables} {F' F : Array Func}
theorem Es{a a':Addr}(h:AR σ D a a'):ay σ D (⟨T,F'⟩:Program) (⟨T,F⟩:Program) (AR σ D) (Conv.seenAt a) (Conv.seenAt a'):=by
 unfold Conv.seenAt
 have e1:a'.block=σ a.block:=by rw[h.2]
 have e2:a'.spot=a.spot:=by rw[h.2]
 have e3:a'.off=a.off:=by rw[h.2]
 rw[e1,e2,e3]
 refine(sN h.1).bind (λx y hxy=> ?_)
 cases hxy with
 |none=>exact ak h
 | @some s s' hs t=>
  dsimp only
  refine aS (λ_=>ak hs) (λ_=> ?_)
  have e4:s'.spot=s.spot:=by rw[hs.2]
  have e5:s'.block=σ s.block:=by rw[hs.2]
  have e6:s'.off=s.off:=by rw[hs.2]
  rw[e4,e5,e6]
  refine aS (λ_=>eF) (λ_=> ?_)
  refine dh ?_
  have e0:(⟨T,F'⟩:Program).depth=(⟨T,F⟩:Program).depth:=rfl
  rw[e0,ji (F':=F') (F:=F)]
  split
  ·refine(ig hs.1).bind (λx y e=> ?_)
   subst e
   split
   ·refine aS (λ_=>eF) (λ_=> ?_)
    have e4:∀e,(⟨T,F'⟩:Program).cellsOf e=(⟨T,F⟩:Program).cellsOf e:=λ_=>rfl
    rw[qY (F':=F') (F:=F),e4]
    rename_i bb _ _ ee cc _
    generalize cellAtBytes (⟨T,F⟩:Program) (⟨T,F⟩:Program).depth ee (cc/(⟨T,F⟩:Program).cellsOf ee) s.off bb=o
    cases o with
    |none=>exact aA
    |some c=>exact ak (show AR σ D {block:=s.block,off:=c,spot:=s.spot} {block:=σ s.block,off:=c,spot:=s.spot}from⟨hs.1,rfl⟩)
   ·exact aA
  ·exact aA
theorem L9{r:Nat}(h:D r):ay σ D (⟨T,F'⟩:Program) (⟨T,F⟩:Program) Eq (cellsIn r) (cellsIn (σ r)):=by
 unfold cellsIn
 refine(ig h).bind (λa b e=> ?_)
 subst e
 split
 ·exact ak rfl
 ·refine .getObj h (λo o' ho=> ?_)
  cases ho<;>exact ak rfl
theorem uI{a a':Addr}(h:AR σ D a a')(t:TypeId):ay σ D (⟨T,F'⟩:Program) (⟨T,F⟩:Program) (VR σ D) (do pure (.pointer (some ⟨<-newObj (.view a t),0,none⟩)):Sem Value) (do pure (.pointer (some ⟨<-newObj (.view a' t),0,none⟩)):Sem Value):=
 .new (.view h t) (λr hd=>.pure (.ptr ⟨hd,rfl⟩))
theorem zh{a a':Addr}(h:AR σ D a a')(l:Bool):ay σ D (⟨T,F'⟩:Program) (⟨T,F⟩:Program) (VR σ D) (asNumber a l) (asNumber a' l):=.new (.number h l) (λr hd=>.pure (.ptr ⟨hd,rfl⟩))
theorem qZ{a a':Addr}(h:AR σ D a a')(u:TypeId)(n:Nat):ay σ D (⟨T,F'⟩:Program) (⟨T,F⟩:Program) Eq (variablesAt a u n) (variablesAt a' u n):=by
 unfold variablesAt
 refine dh ?_
 have e1:a'.block=σ a.block:=by rw[h.2]
 have e3:a'.off=a.off:=by rw[h.2]
 rw[e1,e3]
 refine(ig h.1).bind (λx y e=> ?_)
 subst e
 split
 ·have e0:(⟨T,F'⟩:Program).depth=(⟨T,F⟩:Program).depth:=rfl
  rw[e0,Ep (F':=F') (F:=F)]
  exact ak rfl
 ·exact ak rfl
theorem vW(src dst:TypeId){v v':Value}(h:VR σ D v v'):ay σ D (⟨T,F'⟩:Program) (⟨T,F⟩:Program) (VR σ D) (Conv.unsafePointer src dst v) (Conv.unsafePointer src dst v'):=by
 unfold Conv.unsafePointer
 refine dA src (λd=> ?_)
 refine dA dst (λe=> ?_)
 cases d with
 |pointer t=>
  cases e with
  |unsafePointer=>
   cases h with
   |bT=>exact ak .bT
   |ptr ha=>
    refine(Es ha).bind (λs s' hs=> ?_)
    have e5:s'.block=σ s.block:=by rw[hs.2]
    have e6:s'.off=s.off:=by rw[hs.2]
    have e7:s'.spot=s.spot:=by rw[hs.2]
    rw[e5,e6,e7]
    refine(L9 hs.1).bind (λx y e=> ?_)
    subst e
    dsimp only
    refine bI t (λn=> ?_)
    exact aS (λ_=>uI hs t) (λ_=>ak (.ptr hs))
   |_=>exact aj
  |_=>exact aj
 |unsafePointer=>
  cases e with
  |pointer u=>
   cases h with
   |bT=>exact ak .bT
   |ptr ha=>
    refine(Es ha).bind (λs s' hs=> ?_)
    refine bI u (λn=> ?_)
    refine(qZ hs u 1).bind (λx y e=> ?_)
    subst e
    refine aS (λ_=>ak (.ptr hs)) (λ_=> ?_)
    have e5:s'.block=σ s.block:=by rw[hs.2]
    rw[e5]
    refine(ig hs.1).bind (λx y e=> ?_)
    subst e
    cases x with
    |none=>exact eF
    |some p=>
     refine dh ?_
     refine dh ?_
     have e0:(⟨T,F'⟩:Program).depth=(⟨T,F⟩:Program).depth:=rfl
     rw[e0,qx (F':=F') (F:=F)]
     exact aS (λ_=>eF) (λ_=>uI hs u)
   |_=>exact aj
  |unsafePointer=>
   cases h with
   |bT=>exact ak .bT
   |ptr ha=>exact ak (.ptr ha)
   |_=>exact aj
  |int k=>
   cases h with
   |bT=>exact ak (.int _ _)
   |ptr ha=>exact zh ha false
   |_=>exact aj
  |_=>exact aj
 |int k=>
  cases e with
  |unsafePointer=>cases h<;>first|exact aj|exact aA|(split<;>first|exact aA|exact aj|(exfalso;simp_all;done))
  |_=>exact aj
 |_=>exact aj
def acu(σ:Nat->Nat)(D:Nat->Prop)(v v':Value):Prop:=∃a a',AR σ D a a'/\v=.pointer (some a)/\v'=.pointer (some a')
theorem lM(at':Array TypeId)(t:TypeId){x x' y y':Value}(hx:VR σ D x x')(hy:VR σ D y y'):ay σ D (⟨T,F'⟩:Program) (⟨T,F⟩:Program) (acu σ D) (Builtin.unsafeAdd_ at' t #[x,y]) (Builtin.unsafeAdd_ at' t #[x',y']):=by
 unfold Builtin.unsafeAdd_
 cases hx with
 |bT=>
  refine(mM hy).bind (λa b e=> ?_)
  subst e
  dsimp only
  refine aS (λ_=>eF) (λ_=> ?_)
  exact aS (λ_=>eF) (λ_=>aA)
 | @ptr p p' h=>
  refine(mM hy).bind (λa b e=> ?_)
  subst e
  have e1:p'.block=σ p.block:=by rw[h.2]
  have e3:p'.off=p.off:=by rw[h.2]
  dsimp only
  rw[e1,e3]
  refine aS (λ_=> ?_) (λ_=> ?_)
  ·refine(sN h.1).bind (λx y hxy=> ?_)
   cases hxy with
   |none=>exact ak ⟨_,_,h,rfl,rfl⟩
   |some _ _=>exact eF
  ·refine aS (λ_=>eF) (λ_=> ?_)
   refine(ig h.1).bind (λx y e=> ?_)
   subst e
   split
   ·refine dh ?_
    have e0:(⟨T,F'⟩:Program).depth=(⟨T,F⟩:Program).depth:=rfl
    rw[e0,qY (F':=F') (F:=F)]
    have e4:∀e,(⟨T,F'⟩:Program).cellsOf e=(⟨T,F⟩:Program).cellsOf e:=λ_=>rfl
    rw[e4]
    split
    ·rename_i off _
     exact ak ⟨{p with off:=off},{p' with off:=off},⟨h.1,by rw[h.2]⟩,rfl,by rw[e1]⟩
    ·exact aA
   ·exact aA
 |_=>exact aj
end
end Go.Proofs.YtlncengggmgdgaaGreat.par
namespace Go.Proofs.YtlncengggmgdgaaGreat.par
open Go
section
variable {σ : Nat → Nat} {D : Nat → Prop} {T : Tables} {F' F : Array Func}
theorem vX(hinj:∀r r',D r->D r'->σ r=σ r'->r=r')(hG:∀r,D r->(σ r<T.globals.size↔r<T.globals.size)){a a' b b':Addr}(ha:AR σ D a a')(hb:AR σ D b b'):ay σ D (⟨T,F'⟩:Program) (⟨T,F⟩:Program) Eq (Op.twoPlaces a b) (Op.twoPlaces a' b'):=by
 unfold Op.twoPlaces
 refine dh ?_
 have e1:(a'.block !=b'.block)=(a.block !=b.block):=by
  have:=Eo hinj ha hb
  simp only[bne,this]
 have e2:decide (a'.block>=T.globals.size)=decide (a.block>=T.globals.size):=by
  have h3:=hG _ ha.1
  rw[ha.2]
  simp only[decide_eq_decide,ge_iff_le]
  constructor<;>intro h
  ·exact Nat.le_of_not_lt λh2=>Nat.not_lt.2 h (h3.2 h2)
  ·exact Nat.le_of_not_lt λh2=>Nat.not_lt.2 h (h3.1 h2)
 dsimp only
 rw[e1,e2]
 refine aS (λ_=>eF) (λ_=> ?_)
 refine(kH ha).bind (λp q e=> ?_)
 subst e
 refine(kH hb).bind (λp2 q e=> ?_)
 subst e
 exact ak rfl
theorem acu.vr{v v':Value}(h:acu σ D v v'):VR σ D v v':=by
 obtain⟨a,a',h,rfl,rfl⟩:=h
 exact .ptr h
theorem qy(t:TypeId){x x' y y':Value}(hx:VR σ D x x')(hy:VR σ D y y')(hu:x≠ .tuple #[]):ay σ D (⟨T,F'⟩:Program) (⟨T,F⟩:Program) (VR σ D) (movedPointer t x y) (movedPointer t x' y'):=by
 unfold movedPointer
 cases hx with
 | @ptr a a' h=>
  have e1:a'.block=σ a.block:=by rw[h.2]
  dsimp only
  rw[e1]
  refine(yZ h.1).bind (λx y hxy=> ?_)
  cases hxy with
  |none=>exact(lM #[] t (.ptr h) hy).mono (λ_ _ h=>h.vr)
  |some _ _=>exact eF
 |undef v hv=>exact absurd rfl hu
 |bT=>exact(lM #[] t .bT hy).mono (λ_ _ h=>h.vr)
 |_=>exact aj
theorem gI(t:TypeId){x x' y y':Value}(hx:VR σ D x x')(hy:VR σ D y y')(hu:x≠ .tuple #[]):ay σ D (⟨T,F'⟩:Program) (⟨T,F⟩:Program) (VR σ D) (movedNumber t x y) (movedNumber t x' y'):=by
 unfold movedNumber
 refine dA t (λd=> ?_)
 refine aS (λ_=>eF) (λ_=> ?_)
 cases hx with
 |ptr h=>
  refine(iW h).bind (λp q⟨hp,e⟩=> ?_)
  obtain⟨pa,pl⟩:=p
  obtain⟨qa,ql⟩:=q
  dsimp only at hp e⊢
  subst e
  refine(lM #[] t (.ptr hp) hy).bind (λv v' hv=> ?_)
  obtain⟨a,a',ha,rfl,rfl⟩:=hv
  exact zh ha _
 |undef v hv=>exact absurd rfl hu
 |bT=>exact(lM #[] t .bT hy).mono (λ_ _ h=>h.vr)
 |_=>exact aj
theorem Mc(hinj:∀r r',D r->D r'->σ r=σ r'->r=r')(hG:∀r,D r->(σ r<T.globals.size↔r<T.globals.size))(k:IntKind){a a' b b':Addr}(ha:AR σ D a a')(hb:AR σ D b b'):ay σ D (⟨T,F'⟩:Program) (⟨T,F⟩:Program) (VR σ D) (Op.addrSub k a b) (Op.addrSub k a' b'):=
 (vX hinj hG ha hb).bind (λx y e=>by subst e;exact ak (.int _ _))
theorem Me(hinj:∀r r',D r->D r'->σ r=σ r'->r=r')(hG:∀r,D r->(σ r<T.globals.size↔r<T.globals.size))(op:BinOp){a a' b b':Addr}(ha:AR σ D a a')(hb:AR σ D b b'):ay σ D (⟨T,F'⟩:Program) (⟨T,F⟩:Program) (VR σ D) (Op.addrCmp op a b) (Op.addrCmp op a' b'):=
 (vX hinj hG ha hb).bind (λx y e=>by subst e;cases op<;>first|exact ak (.bool _)|exact aA)
theorem Bl(k:IntKind){a a':Addr}(ha:AR σ D a a')(n:Int):ay σ D (⟨T,F'⟩:Program) (⟨T,F⟩:Program) (VR σ D) (Op.addrMod k a n) (Op.addrMod k a' n):=by
 unfold Op.addrMod
 have e1:a'.block=σ a.block:=by rw[ha.2]
 rw[e1]
 refine(ig ha.1).bind (λx y e=> ?_)
 subst e
 split
 ·refine jv _ (λi _=> ?_)
  dsimp only
  refine aS (λ_=>eF) (λ_=> ?_)
  refine(kH ha).bind (λx y e=> ?_)
  subst e
  exact ak (.int _ _)
 ·exact aA
theorem MB(op:BinOp)(t:TypeId)(x y:Operand){a a' b b':Value}(ha:VR σ D a a')(hb:VR σ D b b'):ay σ D (⟨T,F'⟩:Program) (⟨T,F⟩:Program) (λ_ _=>True) (eqGuard op t x y a b) (eqGuard op t x y a' b'):=by
 unfold eqGuard
 refine aS (λ_=>ak trivial) (λ_=> ?_)
 cases ha with
 |iH=>
  cases hb with
  |iH=>
   refine aS (λ_=>ak trivial) (λ_=> ?_)
   refine(pF _ t .iH .iH).bind (λp q e=> ?_)
   subst e
   exact aS (λ_=>aA) (λ_=>ak trivial)
  |undef v hv=>refine(show ay σ D (⟨T,F'⟩:Program) (⟨T,F⟩:Program) _ (Pure.pure ()) _ from ?_);split<;>first|exact ak trivial|(exfalso;simp_all[UN])
  |_=>exact ak trivial
 |agg h1 h2=>
  cases hb with
  |agg h3 h4=>
   refine dh ?_
   refine dh ?_
   have e0:(⟨T,F'⟩:Program).depth=(⟨T,F⟩:Program).depth:=rfl
   rw[e0,qX (F':=F') (F:=F)]
   refine aS (λ_=>ak trivial) (λ_=> ?_)
   refine(pF _ t (.agg h1 h2) (.agg h3 h4)).bind (λp q e=> ?_)
   subst e
   exact aS (λ_=>aA) (λ_=>ak trivial)
  |undef v hv=>refine(show ay σ D (⟨T,F'⟩:Program) (⟨T,F⟩:Program) _ (Pure.pure ()) _ from ?_);split<;>first|exact ak trivial|(exfalso;simp_all[UN])
  |_=>exact ak trivial
 |undef v hv=>refine(show ay σ D (⟨T,F'⟩:Program) (⟨T,F⟩:Program) _ (Pure.pure ()) _ from ?_);split<;>first|exact ak trivial|(exfalso;simp_all[UN])
 |_=>exact ak trivial
inductive Plain{α:Type}(Q:α->Prop):Sem α->Prop
 |pure {a:α} (h:Q a):Plain Q (.pure a)
 |choose {q:Question} {k:Nat->Sem α} (h:∀n,Plain Q (k n)):Plain Q (.choose q k)
 |halt {h:Halt} (hb:cZ h):Plain Q (.halt h)
theorem Plain.bind{α β:Type}{Q:α->Prop}{Q':β->Prop}{s:Sem α}(h:Plain Q s){f:α->Sem β}(hf:∀a,Q a->Plain Q' (f a)):Plain Q' (s>>=f):=by
 show Plain Q' (s.bind f)
 induction h with
 |pure h=>exact hf _ h
 |choose _ ih=>exact .choose ih
 |halt hb=>exact .halt hb
theorem Plain.rel{α:Type}{Q:α->Prop}{R:α->α->Prop}{s:Sem α}(h:Plain Q s)(hr:∀a,Q a->R a a):ay σ D (⟨T,F'⟩:Program) (⟨T,F⟩:Program) R s s:=by
 induction h with
 |pure h=>exact .pure (hr _ h)
 |choose _ ih=>exact .choose ih
 |halt hb=>exact .dead (.halt hb)
def Q8{α:Type}:α->Prop:=λ_=>True
def IU:Value->Prop:=λv=>kD v=true
theorem dX{α:Type}{Q:α->Prop}{a:α}(h:Q a):Plain Q (Pure.pure a:Sem α):=.pure h
theorem kT{α:Type}{Q:α->Prop}{w:String}:Plain Q (stuck w:Sem α):=.halt trivial
theorem pG(q:Question):Plain Q8 (Go.choose q):=Plain.choose (λn=>Plain.pure trivial)
theorem oz(op:BinOp)(k:FloatKind)(a b:Nat):Plain IU (Op.floatArith op k a b):=by
 unfold Op.floatArith
 have h:∀r:Option Nat,Plain IU (match r with|some r=>Pure.pure (.float k r)|none=>do Pure.pure (.float k (<-Go.choose (.nanBits k a b)))):=λr=>by
  cases r with
  |some r=>exact dX rfl
  |none=>exact(pG _).bind (λ_ _=>dX rfl)
 cases op<;>first|exact(dX (Q:=Q8) trivial).bind (λr _=>h r)|exact(kT (Q:=Q8)).bind (λr _=>h r)
theorem Bo(op:BinOp)(k:FloatKind)(a b:Nat):Plain IU (Op.floatCmp op k a b):=by
 unfold Op.floatCmp
 cases op<;>first|exact dX rfl|exact kT
theorem IV(op:BinOp)(k:FloatKind)(a b:Nat):Plain Q8 (Op.Complex.arith op k a b):=by
 unfold Op.Complex.arith
 refine(oz op k a b).bind (λv _=> ?_)
 cases v<;>first|exact dX trivial|exact kT
theorem Q9(s:FloatKind)(x:Nat)(d:FloatKind):Plain IU (Conv.floatToFloat s x d):=by
 unfold Conv.floatToFloat
 split
 ·exact dX rfl
 ·split
  ·exact(pG _).bind (λ_ _=>dX rfl)
  ·exact dX rfl
  ·dsimp only
   split
   ·exact(pG _).bind (λ_ _=>dX rfl)
   ·exact dX rfl
theorem MF(s:FloatKind)(x:Nat)(d:FloatKind):Plain Q8 (Op.Complex.conv s x d):=by
 unfold Op.Complex.conv
 split
 ·exact dX trivial
 ·refine(Q9 s x d).bind (λv _=> ?_)
  cases v<;>first|exact dX trivial|exact kT
theorem zT(op:BinOp)(k:FloatKind)(a b c d:Nat):Plain IU (Op.complexOp op k a b c d):=by
 unfold Op.complexOp Op.Complex.product Op.Complex.quotient Op.Complex.corrected Op.Complex.add Op.Complex.sub Op.Complex.mul Op.Complex.quo
 cases op<;>dsimp only<;>repeat' (first|exact dX trivial|exact dX rfl|exact kT|exact IV _ _ _ _|exact aeK _ _ _ _|exact MF _ _ _|refine Plain.bind (Q:=Q8) ?_ (λ_ _=> ?_)|split)
theorem kQ(op:BinOp)(k:FloatKind)(a b:Nat):ay σ D (⟨T,F'⟩:Program) (⟨T,F⟩:Program) (VR σ D) (Op.floatArith op k a b) (Op.floatArith op k a b):=(oz op k a b).rel (λ_ h=>iU h)
theorem IW(op:BinOp)(k:FloatKind)(a b:Nat):ay σ D (⟨T,F'⟩:Program) (⟨T,F⟩:Program) (VR σ D) (Op.floatCmp op k a b) (Op.floatCmp op k a b):=(Bo op k a b).rel (λ_ h=>iU h)
theorem FZ(op:BinOp)(k:FloatKind)(a b c d:Nat):ay σ D (⟨T,F'⟩:Program) (⟨T,F⟩:Program) (VR σ D) (Op.complexOp op k a b c d) (Op.complexOp op k a b c d):=(zT op k a b c d).rel (λ_ h=>iU h)
theorem F6{a:Addr}:Value.pointer (some a)≠ .tuple #[]:=by simp
theorem Af:Value.pointer none≠ .tuple #[]:=by simp
theorem Bq{α:Type}{t:TypeId}{f:TypeDesc->Sem α}(h:∀d,Dead (f d)):Dead (underlying t>>=f):=by
 refine Dead.program (λp=> ?_)
 show Dead (Sem.bind (match Program.underlying p t with|some d=>Pure.pure d|none=>stuck "no such type") f)
 rcases Program.underlying p t with _|d
 ·exact Dead.halt (h:=.stuck "no such type") trivial
 ·exact h d
theorem Va(t:TypeId)(b:Value):Dead (Op.equal t (.tuple #[]) b):=by
 show Dead (Op.equalIn (9999+1) t (.tuple #[]) b)
 rw[(eqK 9999 t (.tuple #[]) b).2]
 refine Bq (λu=> ?_)
 cases u<;>first|exact .halt trivial|(cases b<;>exact .halt trivial)
theorem IX(t:TypeId)(a:Value):Dead (Op.equal t a (.tuple #[])):=by
 show Dead (Op.equalIn (9999+1) t a (.tuple #[]))
 rw[(eqK 9999 t a (.tuple #[])).2]
 refine Bq (λu=> ?_)
 cases u<;>first|exact .halt trivial|(cases a<;>first|exact .halt trivial|(rename_i p _ _;cases p<;>exact .halt trivial)|(rename_i p;cases p<;>exact .halt trivial)|(dsimp only[eqK];split<;>first|exact .halt trivial|(exfalso;simp_all;done)))
theorem Et(op:BinOp)(t:TypeId)(b:Value):Dead (binOp op t (.tuple #[]) b):=by
 cases op<;>cases b<;>first|exact .halt trivial|exact(Va t _).bind _
theorem Rh(op:BinOp)(t:TypeId)(a:Value):Dead (binOp op t a (.tuple #[])):=by
 cases op<;>cases a<;>first|exact .halt trivial|exact(IX t _).bind _|(rename_i p;cases p<;>first|exact .halt trivial|exact(IX t _).bind _)
end
end Go.Proofs.YtlncengggmgdgaaGreat.par
namespace Go.Proofs.YtlncengggmgdgaaGreat.par
open Go
section
variable {σ : Nat → Nat} {D : Nat → Prop} {T : Tables} {F' F : Array Func}
def zV(σ:Nat->Nat)(D:Nat->Prop):Prop:=∀r r',D r->D r'->σ r=σ r'->r=r'
def Glob(σ:Nat->Nat)(D:Nat->Prop)(T:Tables):Prop:=∀r,D r->(σ r<T.globals.size↔r<T.globals.size)
section
variable {op : BinOp} {t : TypeId}
theorem aF(hinj:zV σ D)(hG:Glob σ D T){a a' b b':Value}(ha:VR σ D a a')(hb:VR σ D b b'):ay σ D (⟨T,F'⟩:Program) (⟨T,F⟩:Program) (VR σ D) (do Pure.pure (.bool (<-Op.equal t a b)):Sem Value) (do Pure.pure (.bool (<-Op.equal t a' b')):Sem Value):=
 (IL U9 hinj hG t ha hb).bind (λx y e=>by subst e;exact ak (.bool _))
theorem aG(hinj:zV σ D)(hG:Glob σ D T){a a' b b':Value}(ha:VR σ D a a')(hb:VR σ D b b'):ay σ D (⟨T,F'⟩:Program) (⟨T,F⟩:Program) (VR σ D) (do Pure.pure (.bool (!(<-Op.equal t a b))):Sem Value) (do Pure.pure (.bool (!(<-Op.equal t a' b'))):Sem Value):=
 (IL U9 hinj hG t ha hb).bind (λx y e=>by subst e;exact ak (.bool _))
theorem YZ(hinj:zV σ D)(hG:Glob σ D T){k:IntKind}{n:Int}{b b':Value}(hb:VR σ D b b')(hu:b≠ .tuple #[]):ay σ D (⟨T,F'⟩:Program) (⟨T,F⟩:Program) (VR σ D) (binOp op t (.int k n) b) (binOp op t (.int k n) b'):=by
 cases hb with
 |int k' m=>cases op<;>first|exact IG .shl k n k' m|exact IG .shr k n k' m|exact aS (λ_=>aj) (λ_=>yX _ _ _ _)|exact aS (λ_=>aj) (λ_=>QU _ _ _ _)|exact aS (λ_=>aj) (λ_=>Bc _ _ _ _)|exact aS (λ_=>aj) (λ_=>QV _ _ _)
 |bT=>cases op<;>first|exact aF hinj hG (.int k n) .bT|exact aG hinj hG (.int k n) .bT|exact gI t .bT (.int k n) Af|exact aA
 |ptr h=>cases op<;>first|exact aF hinj hG (.int k n) (.ptr h)|exact aG hinj hG (.int k n) (.ptr h)|exact gI t (.ptr h) (.int k n) F6|exact(iW h).bind (λx y⟨hx,_⟩=>Bl _ hx _)|exact aA
 |undef v hv=>exact absurd rfl hu
 |bool x=>cases op<;>first|exact aj|exact aF hinj hG (.int k n) (.bool x)|exact aG hinj hG (.int k n) (.bool x)
 |float x y=>cases op<;>first|exact aj|exact aF hinj hG (.int k n) (.float x y)|exact aG hinj hG (.int k n) (.float x y)
 |complex x y z=>cases op<;>first|exact aj|exact aF hinj hG (.int k n) (.complex x y z)|exact aG hinj hG (.int k n) (.complex x y z)
 |string x=>cases op<;>first|exact aj|exact aF hinj hG (.int k n) (.string x)|exact aG hinj hG (.int k n) (.string x)
 |fK x y=>cases op<;>first|exact aj|exact aF hinj hG (.int k n) (.fK x y)|exact aG hinj hG (.int k n) (.fK x y)
 |slice h x y=>cases op<;>first|exact aj|exact aF hinj hG (.int k n) (.slice h x y)|exact aG hinj hG (.int k n) (.slice h x y)
 |jy=>cases op<;>first|exact aj|exact aF hinj hG (.int k n) .jy|exact aG hinj hG (.int k n) .jy
 |map h=>cases op<;>first|exact aj|exact aF hinj hG (.int k n) (.map h)|exact aG hinj hG (.int k n) (.map h)
 |jg=>cases op<;>first|exact aj|exact aF hinj hG (.int k n) .jg|exact aG hinj hG (.int k n) .jg
 |func fn h1 h2 h3 h4 h0=>cases op<;>first|exact aj|exact aF hinj hG (.int k n) (.func fn h1 h2 h3 h4 h0)|exact aG hinj hG (.int k n) (.func fn h1 h2 h3 h4 h0)
 |weird wm wf wc=>cases op<;>first|exact aj|exact aF hinj hG (.int k n) (.weird wm wf wc)|exact aG hinj hG (.int k n) (.weird wm wf wc)
 |yield hy=>cases op<;>first|exact aj|exact aF hinj hG (.int k n) (.yield hy)|exact aG hinj hG (.int k n) (.yield hy)
 |jh=>cases op<;>first|exact aj|exact aF hinj hG (.int k n) .jh|exact aG hinj hG (.int k n) .jh
 |iface x h=>cases op<;>first|exact aj|exact aF hinj hG (.int k n) (.iface x h)|exact aG hinj hG (.int k n) (.iface x h)
 |iH=>cases op<;>first|exact aj|exact aF hinj hG (.int k n) .iH|exact aG hinj hG (.int k n) .iH
 |agg h1 h2=>cases op<;>first|exact aj|exact aF hinj hG (.int k n) (.agg h1 h2)|exact aG hinj hG (.int k n) (.agg h1 h2)
 |tuple h1 h2=>cases op<;>first|exact aj|exact aF hinj hG (.int k n) (.tuple h1 h2)|exact aG hinj hG (.int k n) (.tuple h1 h2)
def MG:Value->Bool
 | .int .. | .float .. | .complex .. | .string _| .pointer _=>false
 | .tuple vs=> !vs.isEmpty
 |_=>true
theorem Y0{a b:Value}(h:MG a=true)(h1:op≠ .eql)(h2:op≠ .neq):Dead (binOp op t a b):=by
 cases a<;>first|exact absurd (show false=true from h) Bool.false_ne_true|(cases op<;>first|exact absurd rfl h1|exact absurd rfl h2|(cases b<;>exact .halt trivial))
theorem iF(hinj:zV σ D)(hG:Glob σ D T){a a' b b':Value}(ha:VR σ D a a')(hb:VR σ D b b')(h:MG a=true):ay σ D (⟨T,F'⟩:Program) (⟨T,F⟩:Program) (VR σ D) (binOp op t a b) (binOp op t a' b'):=by
 by_cases h1:op=.eql
 ·subst h1
  have e1:binOp .eql t a b=(do Pure.pure (.bool (<-Op.equal t a b)):Sem Value):=by cases a<;>first|exact absurd (show false=true from h) Bool.false_ne_true|(cases b<;>rfl)
  have h':MG a'=true:=by
   cases ha<;>first|rfl|exact absurd (show false=true from h) Bool.false_ne_true|(rename_i k1 _;simp[MG]at h⊢;intro e;subst e;simp_all)
  have e2:binOp .eql t a' b'=(do Pure.pure (.bool (<-Op.equal t a' b')):Sem Value):=by cases a'<;>first|exact absurd (show false=true from h') Bool.false_ne_true|(cases b'<;>rfl)
  rw[e1,e2]
  exact aF hinj hG ha hb
 by_cases h2:op=.neq
 ·subst h2
  have e1:binOp .neq t a b=(do Pure.pure (.bool (!(<-Op.equal t a b))):Sem Value):=by cases a<;>first|exact absurd (show false=true from h) Bool.false_ne_true|(cases b<;>rfl)
  have h':MG a'=true:=by
   cases ha<;>first|rfl|exact absurd (show false=true from h) Bool.false_ne_true|(rename_i k1 _;simp[MG]at h⊢;intro e;subst e;simp_all)
  have e2:binOp .neq t a' b'=(do Pure.pure (.bool (!(<-Op.equal t a' b'))):Sem Value):=by cases a'<;>first|exact absurd (show false=true from h') Bool.false_ne_true|(cases b'<;>rfl)
  rw[e1,e2]
  exact aG hinj hG ha hb
 ·exact .dead (Y0 h h1 h2)
end
end
end Go.Proofs.YtlncengggmgdgaaGreat.par
