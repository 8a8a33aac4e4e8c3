/- The relation of frames and goroutines; how it grows with what is made. No conditions. -/
import Derived.Test.YtlncengggmgdgaaGreatG05
import Derived.Conc.Listed
import Derived.Test.YtlncengggmgdgaaGreatProg
import Derived.Test.YtlncengggmgdgaaGreatG03
set_option linter.unusedVariables false
set_option linter.unusedSimpArgs false
set_option maxRecDepth 100000
namespace Go.Proofs.YtlncengggmgdgaaGreat.par
open Go
inductive LR{α β:Type}(R:α->β->Prop):List α->List β->Prop
 |nil:LR R [] []
 |cons {a:α} {b:β} {l:List α} {m:List β} (h:R a b) (t:LR R l m):LR R (a::l) (b::m)
theorem LR.mono{α β:Type}{R S:α->β->Prop}{l:List α}{m:List β}(h:LR R l m)(hs:∀a b,R a b->S a b):LR S l m:=by
 induction h with
 |nil=>exact .nil
 |cons h _ ih=>exact .cons (hs _ _ h) ih
theorem LR.append{α β:Type}{R:α->β->Prop}{l l2:List α}{m m2:List β}(h:LR R l m)(k:LR R l2 m2):LR R (l++l2) (m++m2):=by
 induction h with
 |nil=>exact k
 |cons h _ ih=>exact .cons h ih
def pn(Sp:FuncId->Prop):Prop:=¬Sp 99999999
structure vZ(T:Tables)(Sp:FuncId->Prop)(F' F:Array Func):Prop where
 fs:FsR T F' F
 body:∀(i:Nat)(f' f:Func)(c' c:Code),¬Sp i->F'[i]? =some f'->F[i]? =some f->f'.body=some c'->f.body=some c->dQ T (pn Sp) false c' c/\f'.ntmps=f.ntmps/\f'.results=f.results
 sz:F.size=AB
 kn:∀fn,fn<AB->∃f' f,F'[fn]? =some f'/\F[fn]? =some f/\f'.results=f.results
section
variable (σ : Nat → Nat) (D : Nat → Prop)
inductive jG(T:Tables)(q:Prop)(rd:Bool):Item->Item->Prop
 |code {c c':Code} (h:dQ T q rd c c'):jG T q rd (.code c) (.code c')
 |inBlock (id:Nat):jG T q rd (.inBlock id) (.inBlock id)
 |inLoop {c c':Code} (h:dQ T q rd c c'):jG T q rd (.inLoop c) (.inLoop c')
 |inScope {c c':Code} (h:dQ T q rd c c'):jG T q rd (.inScope c) (.inScope c')
 |inRegion {ops:Array Oper} (h:∀o∈ops,AO T q rd o) (todo:List Nat):jG T q rd (.inRegion ops todo) (.inRegion ops todo)
 |inRangeFunc {l:Nat} (h:D l):jG T q rd (.inRangeFunc l) (.inRangeFunc (σ l))
 |endRangeFunc {l:Nat} (h:D l):jG T q rd (.endRangeFunc l) (.endRangeFunc (σ l))
 |beginRound:jG T q rd .beginRound .beginRound
inductive RoR:Option Nat->Option Nat->Prop
 |none:RoR none none
 |some {l:Nat} (h:D l):RoR (some l) (some (σ l))
inductive PeR:PanicEntry->PanicEntry->Prop
 |mk {v v':Value} (r:Bool) (h:VR σ D v v'):PeR {v:=v,recovered:=r} {v:=v',recovered:=r}
inductive BA:FrameMode->FrameMode->Prop
 |run:BA .run .run
 |returning:BA .returning .returning
 |panicking {c c':List PanicEntry} (h:LR (PeR σ D) c c'):BA (.panicking c) (.panicking c')
structure jf(T:Tables)(Sp:FuncId->Prop)(F' F:Array Func)(fr' fr:Frame):Prop where
 fn:fr'.fn=fr.fn
 tmps:dI σ D fr'.tmps fr.tmps
 todo:LR (jG σ D T (pn Sp) fr'.roundOf.isSome) fr'.todo fr.todo
 defers:LR (xY σ D) fr'.defers fr.defers
 mode:BA σ D fr'.mode fr.mode
 kind:fr'.kind=fr.kind
 kinds:fr.kind=.normal\/fr.kind=.deferred
 round:RoR σ D fr'.roundOf fr.roundOf
 flat:True
 known:∃f' f,F'[fr.fn]? =some f'/\F[fr.fn]? =some f/\f'.results=f.results
end
section
variable {σ σ1 : Nat → Nat} {D D1 : Nat → Prop}
def Up(σ:Nat->Nat)(D:Nat->Prop)(σ1:Nat->Nat)(D1:Nat->Prop):Prop:=∀r,D r->D1 r/\σ1 r=σ r
theorem AR.up(h:Up σ D σ1 D1){a a':Addr}(ha:AR σ D a a'):AR σ1 D1 a a':=⟨(h _ ha.1).1,by rw[(h _ ha.1).2];exact ha.2⟩
theorem VR.up(h:Up σ D σ1 D1){v v':Value}(hv:VR σ D v v'):VR σ1 D1 v v':=by
 induction hv with
 |undef v hv=>exact .undef v hv
 |bool b=>exact .bool b
 |int k n=>exact .int k n
 |float k n=>exact .float k n
 |complex k n m=>exact .complex k n m
 |string s=>exact .string s
 |bT=>exact .bT
 |ptr ha=>exact .ptr (ha.up h)
 |fK l c=>exact .fK l c
 |slice ha l c=>exact .slice (ha.up h) l c
 |jy=>exact .jy
 |map hr=>rw[<-(h _ hr).2];exact .map (h _ hr).1
 |jg=>exact .jg
 |func fn h1 _ h3 _ h0 ih1 ih2=>exact .func fn h1 ih1 h3 ih2 h0
 |yield hd=>rw[<-(h _ hd).2];exact .yield (h _ hd).1
 |weird m f c=>exact .weird m f c
 |jh=>exact .jh
 |iface t _ ih=>exact .iface t ih
 |iH=>exact .iH
 |agg h1 _ ih=>exact .agg h1 ih
 |tuple h1 _ ih=>exact .tuple h1 ih
theorem dI.up(h:Up σ D σ1 D1){c c':Array Value}(hc:dI σ D c c'):dI σ1 D1 c c':=⟨hc.1,λi x y hx hy=>(hc.2 i x y hx hy).up h⟩
theorem OR.up(h:Up σ D σ1 D1){o o':Obj}(ho:OR σ D o o'):OR σ1 D1 o o':=by
 cases ho with
 |cells hc e f=>exact .cells (dI.up h hc) e f
 |view ha t=>exact .view (ha.up h) t
 |number ha l=>exact .number (ha.up h) l
 |loop hs hp hf hn ht hq hA hB hd he=>exact .loop hs hp hf hn (dI.up h ht) hq hA hB (h _ hd).1 (he.trans (h _ hd).2.symm)
 |xR=>exact .xR
 |sF=>exact .sF
theorem jG.up(h:Up σ D σ1 D1){T:Tables}{q:Prop}{rd:Bool}{i i':Item}(hi:jG σ D T q rd i i'):jG σ1 D1 T q rd i i':=by
 cases hi with
 |code h=>exact .code h
 |inBlock id=>exact .inBlock id
 |inLoop h=>exact .inLoop h
 |inScope h=>exact .inScope h
 |inRegion h t=>exact .inRegion h t
 |inRangeFunc hd=>rw[<-(h _ hd).2];exact .inRangeFunc (h _ hd).1
 |endRangeFunc hd=>rw[<-(h _ hd).2];exact .endRangeFunc (h _ hd).1
 |beginRound=>exact .beginRound
theorem RoR.up(h:Up σ D σ1 D1){i i':Option Nat}(hi:RoR σ D i i'):RoR σ1 D1 i i':=by
 cases hi with
 |none=>exact .none
 |some hd=>rw[<-(h _ hd).2];exact .some (h _ hd).1
theorem Vg.up(h:Up σ D σ1 D1){t t':Target}(ht:Vg σ D t t'):Vg σ1 D1 t t':=by
 cases ht with
 |func f hc=>exact .func f (dI.up h hc)
 |nil=>exact .nil
 |builtin b hb at' t cs=>exact .builtin b hb at' t cs
 |yield hd=>rw[<-(h _ hd).2];exact .yield (h _ hd).1
 |collected hd=>rw[<-(h _ hd).2];exact .collected (h _ hd).1
theorem IZ.up(h:Up σ D σ1 D1){d d':Deferred}(hd:IZ σ D d d'):IZ σ1 D1 d d':=by
 cases hd with
 |mk ht ha hs=>exact .mk (ht.up h) (dI.up h ha) hs
 |weird v a m c b=>exact .weird v a m c b
theorem xY.up(h:Up σ D σ1 D1){d d':Deferred}(hd:xY σ D d d'):xY σ1 D1 d d':=⟨hd.1.up h,hd.2⟩
theorem PeR.up(h:Up σ D σ1 D1){d d':PanicEntry}(hd:PeR σ D d d'):PeR σ1 D1 d d':=by
 cases hd with
 |mk r hv=>exact .mk r (hv.up h)
theorem BA.up(h:Up σ D σ1 D1){d d':FrameMode}(hd:BA σ D d d'):BA σ1 D1 d d':=by
 cases hd with
 |run=>exact .run
 |returning=>exact .returning
 |panicking hc=>exact .panicking (hc.mono λ_ _ x=>x.up h)
theorem jf.up(h:Up σ D σ1 D1){T:Tables}{Sp:FuncId->Prop}{F' F:Array Func}{f' f:Frame}(hf:jf σ D T Sp F' F f' f):jf σ1 D1 T Sp F' F f' f:=
 ⟨hf.fn,dI.up h hf.tmps,hf.todo.mono λ_ _ x=>x.up h,hf.defers.mono λ_ _ x=>x.up h,hf.mode.up h,hf.kind,hf.kinds,hf.round.up h,trivial,hf.known⟩
end
structure Sit(σ:Nat->Nat)(D:Nat->Prop)(T:Tables)(W0 u w:World):Prop where
 wr:WR σ D W0 u w
 inj:zV σ D
 glob:Glob σ D T
 bound:∀r,D r->r<u.heap.size
 gu:T.globals.size<=u.heap.size
 gw:T.globals.size<=w.heap.size
section
variable {σ : Nat → Nat} {D : Nat → Prop} {T : Tables} {W0 u w : World}
def exσ(σ:Nat->Nat)(n m:Nat):Nat->Nat:=λr=>if r<n then σ r else m+(r-n)
def exD(D:Nat->Prop)(n k:Nat):Nat->Prop:=λr=>D r\/(n<=r/\r<n+k)
theorem Sit.up(h:Sit σ D T W0 u w)(k:Nat):Up σ D (exσ σ u.heap.size w.heap.size) (exD D u.heap.size k):=λr hr=>⟨.inl hr,if_pos (h.bound r hr)⟩
theorem Sit.old(h:Sit σ D T W0 u w){r:Nat}(hr:D r):σ r<w.heap.size:=by
 have hlt:=h.bound r hr
 obtain⟨o',ho,_⟩:=h.wr.obj r _ hr (Array.getElem?_eq_getElem hlt)
 exact(Array.getElem?_eq_some_iff.1 ho).1
theorem Sit.BD(h:Sit σ D T W0 u w)(k:Nat):zV (exσ σ u.heap.size w.heap.size) (exD D u.heap.size k):=by
 intro r r' hr hr' e
 unfold exσ at e
 rcases hr with hr|⟨h1,h2⟩<;>rcases hr' with hr'|⟨h3,h4⟩
 ·rw[if_pos (h.bound r hr),if_pos (h.bound r' hr')]at e
  exact h.inj r r' hr hr' e
 ·rw[if_pos (h.bound r hr),if_neg (by omega)]at e
  have:=h.old hr
  omega
 ·rw[if_neg (by omega),if_pos (h.bound r' hr')]at e
  have:=h.old hr'
  omega
 ·rw[if_neg (by omega),if_neg (by omega)]at e
  omega
theorem Sit.F9(h:Sit σ D T W0 u w)(k:Nat):Glob (exσ σ u.heap.size w.heap.size) (exD D u.heap.size k) T:=by
 intro r hr
 unfold exσ
 rcases hr with hr|⟨h1,h2⟩
 ·rw[if_pos (h.bound r hr)];exact h.glob r hr
 ·rw[if_neg (by omega)]
  have:=h.gu
  have:=h.gw
  omega
theorem Sit.abM(h:Sit σ D T W0 u w)(k:Nat):WR (exσ σ u.heap.size w.heap.size) (exD D u.heap.size k) W0 u w:=by
 have hu:=h.up k
 refine⟨λr o hr ho=> ?_,λr hr hle=> ?_,h.wr.low,λa ha hlt z hz hc=> ?_,h.wr.os⟩
 ·rcases hr with hr|⟨h1,h2⟩
  ·obtain⟨o',h1,h2⟩:=h.wr.obj r o hr ho
   exact⟨o',by rw[(hu r hr).2];exact h1,h2.up hu⟩
  ·have:=(Array.getElem?_eq_some_iff.1 ho).1
   omega
 ·unfold exσ
  rcases hr with hr|⟨h1,h2⟩
  ·have:=h.bound r hr;omega
  ·rw[if_neg (by omega)];omega
 ·rcases ha with ha|⟨h1,h2⟩
  ·rw[(hu _ ha).2];exact h.wr.orig a ha hlt z hz hc
  ·have:=h.wr.low;omega
end
end Go.Proofs.YtlncengggmgdgaaGreat.par
namespace Go.Proofs.YtlncengggmgdgaaGreat.par
open Go Go.Conc
def okR(T:Tables)(b rd:Bool)(o:Oper):Bool:=(vF T o.op||(b&&UL o.op))&&(!rd||UM o.op)
theorem acz{T:Tables}{b rd:Bool}{q:Prop}(hb:b=true->q){o:Oper}(h:okR T b rd o=true):AO T q rd o:=by
 unfold okR at h
 simp only[Bool.and_eq_true,Bool.or_eq_true,Bool.not_eq_true']at h
 exact⟨h.1.imp id λx=>⟨hb x.1,x.2⟩,λe=>h.2.elim (λk=>by rw[e]at k;cases k) id⟩
def pr(T:Tables)(b rd:Bool):Code->Code
 | .skip=>.skip
 | .ret=>.ret
 | .label l=>.label l
 | .exit id=>.exit id
 | .region id ops draw=>if ops.all (okR T b rd)then .region id ops draw else .refuse "pruned"
 | .seq x y=>.seq (pr T b rd x) (pr T b rd y)
 | .cond c x y=>if dZ c then .cond c (pr T b rd x) (pr T b rd y)else .refuse "pruned"
 | .block id x=>.block id (pr T b rd x)
 | .loop x=>.loop (pr T b rd x)
 | .scope x=>.scope (pr T b rd x)
 | .rangeFunc f ps x y=>if dZ f then .rangeFunc f ps (pr T false true x) (pr T false true y)else .refuse "pruned"
 | .refuse m=>.refuse m
 |_=>.refuse "pruned"
theorem Vk{T:Tables}{b rd:Bool}{q:Prop}(hb:b=true->q){ops:Array Oper}(h:ops.all (okR T b rd)=true):∀o∈ops,AO T q rd o:=λo ho=>by
 rw[Array.all_eq_true_iff_forall_mem]at h
 exact acz hb (h o ho)
theorem acA(T:Tables):∀(c:Code){b rd:Bool}{q:Prop},(b=true->q)->dQ T q rd (pr T b rd c) c:=by
 intro c
 induction c with
 |skip=>exactλ_=>.skip
 |ret=>exactλ_=>.ret
 |label l=>exactλ_=>.label l
 |exit id=>exactλ_=>.exit id
 |region id ops draw=>
  intro b rd q hb
  unfold pr
  by_cases h:ops.all (okR T b rd)=true
  ·rw[if_pos h];exact .region id draw (Vk hb h)
  ·rw[if_neg h];exact .refuse _ _
 |seq x y hx hy=>exactλhb=>.seq (hx hb) (hy hb)
 |cond c x y hx hy=>
  intro b rd q hb
  unfold pr
  by_cases h:dZ c=true
  ·rw[if_pos h];exact .cond h (hx hb) (hy hb)
  ·rw[if_neg h];exact .refuse _ _
 |block id x hx=>exactλhb=>.block id (hx hb)
 |loop x hx=>exactλhb=>.loop (hx hb)
 |scope x hx=>exactλhb=>.scope (hx hb)
 |rangeFunc f ps x y hx hy=>
  intro b rd q hb
  unfold pr
  by_cases h:dZ f=true
  ·rw[if_pos h];exact .rangeFunc h ps (hx (λe=>by cases e)) (hy (λe=>by cases e))
  ·rw[if_neg h];exact .refuse _ _
 |refuse m=>exactλ_=>.refuse _ _
 |_=>exactλ_=>.refuse _ _
end Go.Proofs.YtlncengggmgdgaaGreat.par
namespace Go.Proofs.YtlncengggmgdgaaGreat.par
open Go Go.Conc
section
variable {T : Tables}
theorem Y6{σ:Nat->Nat}{D:Nat->Prop}{F' F:Array Func}(k:IntKind){a a':Addr}(h:AR σ D a a'):ay σ D (⟨T,F'⟩:Program) (⟨T,F⟩:Program) (VR σ D) (Extern.Atomic.read (.int k) a) (Extern.Atomic.read (.int k) a'):=by
 unfold Extern.Atomic.read
 refine(Ad _ h).bind (λv v' hv=> ?_)
 cases hv with
 |int k' n=>
  dsimp only
  exact aS (λ_=>ak (.int k' n)) (λ_=>aA)
 |ptr ha=>cases k<;>first|exact aA|exact ak (.ptr ha)
 |_=>exact aA
theorem args1{σ:Nat->Nat}{D:Nat->Prop}{a a':Array Value}(h:dI σ D a a'):(∃x y,a= #[x]/\a'= #[y]/\VR σ D x y)\/(a.size≠1/\a'.size≠1):=by
 by_cases hs:a.size=1
 ·obtain⟨x,rfl⟩:=Array.size_eq_one_iff.1 hs
  obtain⟨y,rfl⟩:=Array.size_eq_one_iff.1 (h.1▸hs)
  exact .inl ⟨x,y,rfl,rfl,h.2 0 x y rfl rfl⟩
 ·exact .inr ⟨hs,h.1▸hs⟩
theorem Ja:Y3 T Extern.AbiNoEscape.same:=by
 intro σ D F' F a a' h
 rcases args1 h with⟨x,y,rfl,rfl,hv⟩|⟨h1,h2⟩
 ·exact ak hv
 ·obtain⟨l⟩:=a
  rcases l with _|⟨x,_|⟨y,l⟩⟩
  ·exact aj
  ·exact absurd rfl h1
  ·exact aj
theorem Jb(k:IntKind):Y3 T (Extern.Atomic.loadT (.int k)):=by
 intro σ D F' F a a' h
 rcases args1 h with⟨x,y,rfl,rfl,hv⟩|⟨h1,h2⟩
 ·exact(sH hv).bind λp q hpq=>Y6 k hpq
 ·obtain⟨l⟩:=a
  rcases l with _|⟨x,_|⟨y,l⟩⟩
  ·exact aj
  ·exact absurd rfl h1
  ·exact aj
theorem args2{σ:Nat->Nat}{D:Nat->Prop}{a a':Array Value}(h:dI σ D a a'):(∃x y z t,a= #[x,z]/\a'= #[y,t]/\VR σ D x y/\VR σ D z t)\/(a.size≠2/\a'.size≠2):=by
 by_cases hs:a.size=2
 ·obtain⟨⟨l⟩⟩:=a,hs
  obtain⟨l'⟩:=a'
  have hs':l'.length=2:=by have:=h.1;simp at this hs;omega
  rcases l with _|⟨x,_|⟨z,_|⟨_,_⟩⟩⟩<;>simp at hs
  rcases l' with _|⟨y,_|⟨t,_|⟨_,_⟩⟩⟩<;>simp at hs'
  exact .inl ⟨x,y,z,t,rfl,rfl,h.2 0 x y rfl rfl,h.2 1 z t rfl rfl⟩
 ·exact .inr ⟨hs,h.1▸hs⟩
theorem Ez:Y3 T Extern.Atomic.storeT:=by
 intro σ D F' F a a' h
 rcases args2 h with⟨x,y,z,t,rfl,rfl,hv,hz⟩|⟨h1,h2⟩
 ·exact(sH hv).bind λp q hpq=>(Iy _ hpq hz).bind λ_ _ _=>ak (.tuple rfl λi x y hx hy=>by simp at hx)
 ·obtain⟨l⟩:=a
  rcases l with _|⟨x,_|⟨y,_|⟨z,l⟩⟩⟩
  ·exact aj
  ·exact aj
  ·exact absurd rfl h1
  ·exact aj
end
def dK(d:Option Tmp)(op:Op)(t:TypeId):Oper:=⟨d,op,t,"",#[],none⟩
def zi(x:Int):Array Oper:= #[dK (some 1) (.fieldAddr 257 (.tmp 0) 0) 0,dK (some 2) (.load 21 (.tmp 1)) 21,dK (some 3) (.binOp .eql 21 (.tmp 2) (.const (.int .i32 x)) 21) 4]
def Jc:Array Oper:= #[dK (some 4) (.alloc 257) 0,dK (some 5) (.binOp .eql 274 (.tmp 1) (.tmp 4) 274) 4]
def EC(y:Int):Array Oper:= #[dK none (.store 21 (.tmp 1) (.const (.int .i32 y))) 0]
def xZ(y:Int):Code:=.seq (.region 1 Jc false) (.seq (.region 2 (EC y) false) .ret)
def ru(y:Int):Code:=.seq (.cond (.tmp 3) .skip (.refuse "pruned")) (xZ y)
def fA(x y:Int):Code:=.seq (.region 0 (zi x) false) (ru y)
def special:List FuncId:=[122,201,202]
def Sp(f:FuncId):Prop:=f∈special
def served:List FuncId:=[132,196,203]
def wo(f:Func):Func:={(default:Func)with name:= "refused",body:=none,results:=f.results}
def rC(H:Code)(i:FuncId)(c:Code):Code:=if i=122 then H else if i=201 then fA 0 1 else if i=202 then fA 1 0 else if i=136 then .refuse "dead" else c
def yg:Code->Bool
 | .refuse _=>false
 |_=>true
def lf(H:Code)(T:Tables)(i:FuncId)(f:Func):Func:=
 match f.body with
 |some c=>{f with body:=some (pr T (yg H) false (rC H i c))}
 |none=>if i∈served then f else wo f
noncomputable def dP (H:Code):Array Func:=(Tryz.prog).funcs.mapIdx λi f=>lf H (Tryz.prog).toTables i f
noncomputable def ah (H:Code):Program:=⟨(Tryz.prog).toTables,dP H⟩
theorem Ah{H:Code}{i:Nat}{f':Func}(h:(dP H)[i]? =some f'):∃f,(Tryz.prog).funcs[i]? =some f/\f'=lf H (Tryz.prog).toTables i f:=by
 unfold dP at h
 rw[Array.getElem?_mapIdx]at h
 obtain⟨f,h1,h2⟩:=Option.map_eq_some_iff.1 h
 exact⟨f,h1,h2.symm⟩
theorem Vl:(Tryz.prog).funcs.all (λf=>f.name != "runtime.NumGoroutine")=true:=by kernel_rfl
theorem Pg{i:Nat}{f:Func}(h:(Tryz.prog).funcs[i]? =some f):(f.name== "runtime.NumGoroutine")=false:=by
 have h1:=Vl
 rw[Array.all_eq_true_iff_forall_mem]at h1
 have:=h1 f (Array.mem_of_getElem? h)
 simpa using this
theorem Y7(H:Code):FsR (Tryz.prog).toTables (dP H) (Tryz.prog).funcs:=by
 intro i f' h
 obtain⟨f,h1,rfl⟩:=Ah h
 refine⟨f,h1,?_⟩
 have hn:=Pg h1
 rcases hb:f.body with _|c
 ·by_cases hi:i∈served
  ·have e:lf H (Tryz.prog).toTables i f=f:=by unfold lf;rw[hb];simp[hi]
   rw[e]
   simp only[served,List.mem_cons,List.not_mem_nil,or_false]at hi
   rcases hi with rfl|rfl|rfl
   ·obtain rfl:=Option.some.inj (Tryz.func132.symm.trans h1)
    exact .ext rfl (by kernel_rfl) (by kernel_rfl) (e:=Extern.AbiNoEscape.same) (by kernel_rfl) Ja
   ·obtain rfl:=Option.some.inj (Tryz.func196.symm.trans h1)
    exact .ext rfl (by kernel_rfl) (by kernel_rfl) (e:=Extern.Atomic.loadT (.int .u32)) (by kernel_rfl) (Jb .u32)
   ·obtain rfl:=Option.some.inj (Tryz.func203.symm.trans h1)
    exact .ext rfl (by kernel_rfl) (by kernel_rfl) (e:=Extern.Atomic.storeT) (by kernel_rfl) Ez
  ·have e:lf H (Tryz.prog).toTables i f=wo f:=by unfold lf;rw[hb];simp[hi]
   rw[e]
   exact .refused rfl (by kernel_rfl) (by kernel_rfl) (by kernel_rfl) (by kernel_rfl)
 ·have e:lf H (Tryz.prog).toTables i f={f with body:=some (pr (Tryz.prog).toTables (yg H) false (rC H i c))}:=by unfold lf;rw[hb]
  rw[e]
  exact .both rfl hb hn hn
theorem MN(H:Code)(T:Tables)(i:FuncId)(f:Func):(lf H T i f).results=f.results:=by
 unfold lf
 cases f.body with
 |some c=>rfl
 |none=>
  dsimp only
  split<;>rfl
theorem Ph(H:Code){fn:FuncId}(h:fn<AB):∃f' f,(dP H)[fn]? =some f'/\(Tryz.prog).funcs[fn]? =some f/\f'.results=f.results:=by
 rw[<-FP]at h
 refine⟨_,_,?_,Array.getElem?_eq_getElem h,MN H (Tryz.prog).toTables fn _⟩
 unfold dP
 rw[Array.getElem?_mapIdx,Array.getElem?_eq_getElem h]
 rfl
theorem Y8(H:Code):(dP H).size=AB:=by
 unfold dP
 rw[Array.size_mapIdx]
 exact FP
theorem ED(H:Code){S:FuncId->Prop}(hS:∀i,Sp i->S i)(hq:yg H=true->pn S):vZ (Tryz.prog).toTables S (dP H) (Tryz.prog).funcs:=by
 refine⟨Y7 H,λi f' f c' c hs h' h hb' hb=> ?_,FP,λ_ h=>Ph H h⟩
 obtain⟨f0,h1,rfl⟩:=Ah h'
 obtain rfl:=Option.some.inj (h1.symm.trans h)
 replace hs:¬Sp i:=λh=>hs (hS i h)
 unfold Sp special at hs
 simp only[List.mem_cons,List.not_mem_nil,or_false,not_or]at hs
 by_cases hd:i=136
 ·have e:lf H (Tryz.prog).toTables i f0={f0 with body:=some (pr (Tryz.prog).toTables (yg H) false (.refuse "dead"))}:=by
   unfold lf rC
   rw[hb]
   dsimp only
   rw[if_neg hs.1,if_neg hs.2.1,if_neg hs.2.2,if_pos hd]
  rw[e]at hb'⊢
  obtain rfl:=Option.some.inj hb'
  exact⟨.refuse _ _,rfl,rfl⟩
 ·have e:lf H (Tryz.prog).toTables i f0={f0 with body:=some (pr (Tryz.prog).toTables (yg H) false c)}:=by
   unfold lf rC
   rw[hb]
   dsimp only
   rw[if_neg hs.1,if_neg hs.2.1,if_neg hs.2.2,if_neg hd]
  rw[e]at hb'⊢
  obtain rfl:=Option.some.inj hb'
  exact⟨acA _ c hq,rfl,rfl⟩
theorem aeY:pn Sp:=by
 unfold pn Sp special
 decide
theorem Jd(H:Code):vZ (Tryz.prog).toTables Sp (dP H) (Tryz.prog).funcs:=ED H (λ_ h=>h) (λ_=>aeY)
def SpW(f:FuncId):Prop:=Sp f\/f=99999999
theorem acC:¬pn SpW:=λh=>h (.inr rfl)
theorem EF{H:Code}(h:yg H=false):vZ (Tryz.prog).toTables SpW (dP H) (Tryz.prog).funcs:=ED H (λ_ h=>.inl h) (λe=>by rw[h]at e;cases e)
theorem Y9(T:Tables):∀(c:Code){b rd:Bool}{q:Prop},(b=true->q)->dQ T q rd (pr T b rd c) (pr T b rd c):=by
 intro c
 induction c with
 |skip=>exactλ_=>.skip
 |ret=>exactλ_=>.ret
 |label l=>exactλ_=>.label l
 |exit id=>exactλ_=>.exit id
 |region id ops draw=>
  intro b rd q hb
  unfold pr
  by_cases h:ops.all (okR T b rd)=true
  ·rw[if_pos h];exact .region id draw (Vk hb h)
  ·rw[if_neg h];exact .refuse _ _
 |seq x y hx hy=>exactλhb=>.seq (hx hb) (hy hb)
 |cond c x y hx hy=>
  intro b rd q hb
  unfold pr
  by_cases h:dZ c=true
  ·rw[if_pos h];exact .cond h (hx hb) (hy hb)
  ·rw[if_neg h];exact .refuse _ _
 |block id x hx=>exactλhb=>.block id (hx hb)
 |loop x hx=>exactλhb=>.loop (hx hb)
 |scope x hx=>exactλhb=>.scope (hx hb)
 |rangeFunc f ps x y hx hy=>
  intro b rd q hb
  unfold pr
  by_cases h:dZ f=true
  ·rw[if_pos h];exact .rangeFunc h ps (hx (λe=>by cases e)) (hy (λe=>by cases e))
  ·rw[if_neg h];exact .refuse _ _
 |_=>exactλ_=>.refuse _ _
theorem Za(H:Code):FsR (Tryz.prog).toTables (dP H) (dP H):=by
 intro i f' h
 refine⟨f',h,?_⟩
 obtain⟨f,h1,rfl⟩:=Ah h
 have hn:=Pg h1
 rcases hb:f.body with _|c
 ·by_cases hi:i∈served
  ·have e:lf H (Tryz.prog).toTables i f=f:=by unfold lf;rw[hb];simp[hi]
   rw[e]
   simp only[served,List.mem_cons,List.not_mem_nil,or_false]at hi
   rcases hi with rfl|rfl|rfl
   ·obtain rfl:=Option.some.inj (Tryz.func132.symm.trans h1)
    exact .ext rfl (by kernel_rfl) (by kernel_rfl) (e:=Extern.AbiNoEscape.same) (by kernel_rfl) Ja
   ·obtain rfl:=Option.some.inj (Tryz.func196.symm.trans h1)
    exact .ext rfl (by kernel_rfl) (by kernel_rfl) (e:=Extern.Atomic.loadT (.int .u32)) (by kernel_rfl) (Jb .u32)
   ·obtain rfl:=Option.some.inj (Tryz.func203.symm.trans h1)
    exact .ext rfl (by kernel_rfl) (by kernel_rfl) (e:=Extern.Atomic.storeT) (by kernel_rfl) Ez
  ·have e:lf H (Tryz.prog).toTables i f=wo f:=by unfold lf;rw[hb];simp[hi]
   rw[e]
   exact .refused rfl (by kernel_rfl) (by kernel_rfl) (by kernel_rfl) (by kernel_rfl)
 ·have e:lf H (Tryz.prog).toTables i f={f with body:=some (pr (Tryz.prog).toTables (yg H) false (rC H i c))}:=by unfold lf;rw[hb]
  rw[e]
  exact .both rfl rfl hn hn
theorem wu(H:Code):vZ (Tryz.prog).toTables (λ_=>False) (dP H) (dP H):=by
 refine⟨Za H,λi f' f c' c _ h' h hb' hb=> ?_,Y8 H,λ_ h=>by
  obtain⟨f',f,h1,_,_⟩:=Ph H h
  exact⟨f',f',h1,h1,rfl⟩⟩
 obtain rfl:=Option.some.inj (h'.symm.trans h)
 obtain rfl:=Option.some.inj (hb'.symm.trans hb)
 obtain⟨f0,h1,rfl⟩:=Ah h'
 refine⟨?_,rfl,rfl⟩
 rcases hb0:f0.body with _|c0
 ·by_cases hi:i∈served
  ·have e:lf H (Tryz.prog).toTables i f0=f0:=by unfold lf;rw[hb0];simp[hi]
   rw[e,hb0]at hb
   cases hb
  ·have e:lf H (Tryz.prog).toTables i f0=wo f0:=by unfold lf;rw[hb0];simp[hi]
   rw[e]at hb
   cases hb
 ·have e:lf H (Tryz.prog).toTables i f0={f0 with body:=some (pr (Tryz.prog).toTables (yg H) false (rC H i c0))}:=by unfold lf;rw[hb0]
  rw[e]at hb
  obtain rfl:=Option.some.inj hb
  exact Y9 _ _ λ_ h=>h
theorem acD:(Tryz.prog).types.all (λi=>match i.zero with|some v=>En 6 v|none=>true)=true:=by kernel_rfl
theorem Zb:(match(Tryz.prog).toTables.info? UC with|some i=>(i.methods.find? (λm=>m.name== "")).isNone|none=>true)=true:=by kernel_rfl
theorem zp:ZP (Tryz.prog).toTables:=by
 refine aeW _ (λt i h v hv=> ?_) (λi hi=>by
  have h1:=Zb
  rw[hi]at h1
  simpa using h1) YQ
 have h1:=acD
 rw[Array.all_eq_true_iff_forall_mem]at h1
 have:=h1 i (Array.mem_of_getElem? h)
 rw[hv]at this
 exact YU 6 v this
end Go.Proofs.YtlncengggmgdgaaGreat.par
namespace Go.Proofs.YtlncengggmgdgaaGreat.par
open Go
section
variable {σ : Nat → Nat} {D : Nat → Prop} {T : Tables} {F' F : Array Func}
theorem uJ{l:Nat}(h:D l){r r':Loop}(hr:OR σ D (.loop r) (.loop r')){α β:Type}{R:α->β->Prop}{k:Sem α}{k':Sem β}(hk:ay σ D (⟨T,F'⟩:Program) (⟨T,F⟩:Program) R k k'):ay σ D (⟨T,F'⟩:Program) (⟨T,F⟩:Program) R (do setObj l (.loop r);k) (do setObj (σ l) (.loop r');k'):=
 ay.setObj h hr rfl hk
theorem Je{l:Nat}(h:D l){j j':Option Code}(hj:AP j j'):ay σ D (⟨T,F'⟩:Program) (⟨T,F⟩:Program) (VR σ D) (Instr.endRound l j) (Instr.endRound (σ l) j'):=by
 unfold Instr.endRound
 refine(mQ h).bind λr r' hr=> ?_
 have e:j.isNone=j'.isNone:=by cases hj<;>rfl
 cases hr with
 |loop hs hp hf hn ht hq hA hB hd he=>
  rw[e]
  refine uJ h ?_ ?_
  ·exact .loop rfl hj hf hn ht hq hA hB hd he
  ·exact ak (VR.bool _)
theorem D9{l:Nat}(h:D l):ay σ D (⟨T,F'⟩:Program) (⟨T,F⟩:Program) (λ_ _=>True) (Instr.beginRound l) (Instr.beginRound (σ l)):=by
 unfold Instr.beginRound
 refine(mQ h).bind λr r' hr=> ?_
 cases hr with
 |loop hs hp hf hn ht hq hA hB hd he=>
  refine uJ h ?_ ?_
  ·exact .loop rfl hp hf hn ht hq hA hB hd he
  rw[<-hs]
  cases r.state<;>first|exact ak trivial|exact dJ (.error _) rfl
theorem MO{l:Nat}(h:D l):ay σ D (⟨T,F'⟩:Program) (⟨T,F⟩:Program) AP (Instr.endLoop l) (Instr.endLoop (σ l)):=by
 unfold Instr.endLoop
 refine(mQ h).bind λr r' hr=> ?_
 cases hr with
 |loop hs hp hf hn ht hq hA hB hd he=>
  have rest:ay σ D (⟨T,F'⟩:Program) (⟨T,F⟩:Program) AP (do setObj l (.loop {r with state:=.exhausted});Pure.pure r.pending:Sem (Option Code)) (do setObj (σ l) (.loop {r' with state:=.exhausted});Pure.pure r'.pending:Sem (Option Code)):=by
   refine uJ h ?_ ?_
   ·exact .loop rfl hp hf hn ht hq hA hB hd he
   ·exact ak hp
  dsimp only
  rw[hs]
  split
  ·exact(dJ (R:=λ_ _=>False) (.error _) rfl).bind λ_ _ h=>h.elim
  ·exact rest
theorem Gf(hT:T=vG){fn:FuncId}(hfn:fn<AB){t t':Array Value}(ht:dI σ D t t')(ps:Array Tmp){a a' b b':Code}(ha:dQ T False true a a')(hb:dQ T False true b b'){o o':Option Nat}(ho:RoR σ D o o'):
  ay σ D (⟨T,F'⟩:Program) (⟨T,F⟩:Program) (λ(x y:Nat×List Deferred)=>(D x.1/\y.1=σ x.1)/\LR (xY σ D) x.2 y.2) (Instr.enterLoop fn t ps a b o) (Instr.enterLoop fn t' ps a' b' o'):=by
 unfold Instr.enterLoop
 subst hT
 cases ho with
 |none=>exact ay.new .sF λr hr=>ay.new (.loop rfl .none rfl hfn ht rfl ha hb hr rfl) λr2 hr2=>.pure ⟨⟨hr2,rfl⟩,.cons ⟨.mk (.collected hr) ⟨rfl,λi x y hx=>by simp at hx⟩ (λf c e=>by cases e),rfl⟩ .nil⟩
 |some hl=>
  refine ay.bind (mQ hl) λr r' hr=> ?_
  cases hr with
  |loop hs hp hf hn ht2 hq hA hB hd he=>exact ay.new (.loop rfl .none rfl hfn ht rfl ha hb hd he) λr2 hr2=>.pure ⟨⟨hr2,rfl⟩,.nil⟩
end
end Go.Proofs.YtlncengggmgdgaaGreat.par
