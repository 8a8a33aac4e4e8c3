/- Maps of the call's own, keyed by uint64, as functions. Any program. No conditions. -/
import Derived.Test.YtpgjploaliefdaaGreatGr
import Derived.Maps.OwnSet
import Derived.Maps.OwnOps
namespace Go.Proofs.YtpgjploaliefdaaGreat.mp
open Go Go.RowKit gr
open Go.Maps (Keyed)
set_option linter.unusedVariables false
set_option linter.unusedSimpArgs false
def zn(v:Value):Option (DataW Value×List MemPlace):=some (.held v,[])
def Sj(a:Int):Prop:=0<=a/\a<18446744073709551616
theorem wf64{a:Int}(h:Sj a):(Lit.int .u64 a).wf=true:=by
 obtain⟨h1,h2⟩:=h
 simp[Lit.wf,IntKind.min,IntKind.max,IntKind.signed,IntKind.bits]
 omega
def dh(P:Program)(k:TypeId)(W:World)(b n:Nat)(f:Int->Option Value):Prop:=
 ∃D:DataW Value,W.ownsMap P k zn b n D/\Maps.size D=n/\∀a,Sj a->Maps.has D (.int .u64 a)=(f a).isSome/\∀z,D.atKey (.int .u64 a) (.held z)=.held ((f a).getD z)
def upd(f:Int->Option Value)(a:Int)(v:Value):Int->Option Value:=λx=>if x=a then some v else f x
variable {P : Program} {k : TypeId} {W : World} {b n : Nat} {f : Int → Option Value}
theorem dh.made(W:World):dh P k (W.alloc (.map #[] 0)) W.heap.size 0 (λ_=>none):=
 ⟨_,World.ownsMap_made W P k zn,rfl,λa _=>⟨rfl,λ_=>rfl⟩⟩
theorem dh.lt(h:dh P k W b n f):b<W.heap.size:=by
 obtain⟨D,h1,_⟩:=h
 exact h1.lt
theorem dh.kept{w:World}{row:Option Nat}(h:dh P k W b n f)(hg:W.grownBy w row)(hne:some b≠row):dh P k w b n f:=by
 obtain⟨D,h1,h2⟩:=h
 exact⟨D,h1.kept hg hne,h2⟩
theorem dh.tr{w:World}(h:dh P k W b n f)(hb:Below W.heap.size W w):dh P k w b n f:=h.kept (IQ hb none) (by simp)
theorem dh.setCell{a:Addr}(h:dh P k W b n f)(ha:b≠a.block)(u:Value):dh P k (W.setCell a u) b n f:=by
 obtain⟨D,h1,h2⟩:=h
 exact⟨D,h1.setCell ha u,h2⟩
theorem Oc{D:DataW Value}(h:W.ownsMap P k zn b n D):W.ownsMap P k zn b (Maps.size D) D:=by
 obtain⟨es,clock,hb,F,hs,rfl⟩:=h
 exact⟨es,clock,hb,F,by simp[Maps.size,length_sorted],rfl⟩
theorem Tz{D:DataW Value}{v z:Value}{a:Int}{ps:List MemPlace}(h:zn v=some (D.atKey (.int .u64 a) (.held z),ps))(h2:D.atKey (.int .u64 a) (.held z)=.held ((f a).getD z)):v=(f a).getD z:=by
 rw[h2]at h
 unfold zn at h
 simp only[Option.some.injEq,Prod.mk.injEq,DataW.held.injEq]at h
 exact h.1
section
variable (w : World) {ops : Array Oper} {rest : List Oper} {o : Oper} {a : Act} {Q : Exit → Act → World → Prop}
theorem tC(hg:o.guard=none)(m x:Operand)(t:TypeId)(hop:o.op=Op.lookup t m x true)
  (e:TypeId) (hk:P.underlying k=some (.int .u64)) (ht:P.underlying t=some (.map k e)) (z:Value) (hz:(zeroValue e).run P w=.ok z w)
  (hm:a.eval m=.map (some b)) (hown:dh P k w b n f) (y:Int) (hx:a.eval x=.int .u64 y) (hy:Sj y)
  (hK:wpList P ops Q rest (a.put o.dst (.tuple #[(f y).getD z,.bool (f y).isSome])) w):
  wpList P ops Q (o::rest) a w:=by
 obtain⟨D,h1,h2,h3⟩:=hown
 refine wpList_lookup_own_ok w hg m x t hop k e (Maps.int_keyed hk) ht zn hz (.held z) [] rfl b n D hm h1 (.int .u64 y) (.int .u64 y) hx (Maps.keyOf_int_mk hk (wf64 hy)) λv ps hv=> ?_
 obtain⟨h4,h5⟩:=h3 y hy
 rw[Tz hv (h5 z),h4]
 exact hK
theorem aeU(hg:o.guard=none)(m x:Operand)(t:TypeId)(hop:o.op=Op.lookup t m x false)
  (e:TypeId) (hk:P.underlying k=some (.int .u64)) (ht:P.underlying t=some (.map k e)) (z:Value) (hz:(zeroValue e).run P w=.ok z w)
  (hm:a.eval m=.map (some b)) (hown:dh P k w b n f) (y:Int) (hx:a.eval x=.int .u64 y) (hy:Sj y)
  (hK:wpList P ops Q rest (a.put o.dst ((f y).getD z)) w):
  wpList P ops Q (o::rest) a w:=by
 obtain⟨D,h1,h2,h3⟩:=hown
 refine wpList_plain hg λK' hK'=> ?_
 obtain⟨v,ps,hrun,hv⟩:=h1.lookup (Maps.int_keyed hk) ht hz (zd:=.held z) (zp:=[]) rfl (Maps.keyOf_int_mk hk (wf64 hy))
 obtain⟨h4,h5⟩:=h3 y hy
 have e1:=Tz hv (h5 z)
 unfold Oper.wp
 simp[execOp,hop,hm,hx,hrun,Result.andThen]
 rw[e1]
 exact hK' _ _ hK
theorem Dk(hg:o.guard=none)(m x v:Operand)(t:TypeId)(hop:o.op=Op.mapUpdate t m x v)
  (e:TypeId) (hk:P.underlying k=some (.int .u64)) (ht:P.underlying t=some (.map k e))
  (hm:a.eval m=.map (some b)) (hown:dh P k w b n f) (hn:n<maxLen) (y:Int) (hx:a.eval x=.int .u64 y) (hy:Sj y) (u:Value) (hv:a.eval v=u)
  (hK:∀w',dh P k w' b (if(f y).isSome then n else n+1) (upd f y u)->w.grownBy w' (some b)->wpList P ops Q rest (a.put o.dst undef) w'):
  wpList P ops Q (o::rest) a w:=by
 obtain⟨D,h1,h2,h3⟩:=hown
 refine wpList_mapUpdate_own w hg m x v t hop k e (Maps.int_keyed hk) ht zn b n D hm h1 hn (.int .u64 y) u (.int .u64 y) hx hv (Maps.keyOf_int_mk hk (wf64 hy)) (.held u) [] rfl λw' g1 g2=>hK w' ?_ g2
 have hks:WideAt.IsKeyLit (.int .u64 y):=trivial
 have hs:=Maps.size_put (k:=.int .u64 y) (h1.tidy (Maps.int_keyed hk)) (.held u)
 rw[(h3 y hy).1,h2]at hs
 refine⟨_,?_,hs,λc hc=> ?_⟩
 ·rw[<-hs]
  exact Oc g1
 ·unfold upd
  by_cases e2:c=y
  ·subst e2
   rw[if_pos rfl]
   exact⟨Maps.has_put_same h1.isMap hks (.held u),λz=>Maps.atKey_put_same h1.isMap hks (.held u) _⟩
  ·rw[if_neg e2]
   have e3:(Lit.int .u64 c)≠ .int .u64 y:=λe=>e2 (by cases e;rfl)
   rw[Maps.has_put_other e3,(h3 c hc).1]
   exact⟨rfl,λz=>by rw[Maps.atKey_put_other e3,(h3 c hc).2 z]⟩
theorem afG(hg:o.guard=none)(m:Operand)(t:TypeId)(hop:o.op=Op.call {callee:=Callee.builtin Builtin.len,args:= #[m],argTypes:= #[t]})
  (e:TypeId) (ht:P.underlying t=some (.map k e)) (hm:a.eval m=.map (some b)) (hown:dh P k w b n f)
  (hK:wpList P ops Q rest (a.put o.dst (.int .i64 n)) w):
  wpList P ops Q (o::rest) a w:=by
 obtain⟨D,h1,h2,h3⟩:=hown
 exact wpList_len_own w hg m t hop k e ht zn b n D hm h1 (by rw[h2];exact hK)
end
end Go.Proofs.YtpgjploaliefdaaGreat.mp
