/- The relation, operation by operation: binary operators (the rest), conversions. No conditions. -/
import Derived.Test.YtlncengggmgdgaaGreatG04
set_option linter.unusedVariables false
set_option linter.unusedSimpArgs false
namespace Go.Proofs.YtlncengggmgdgaaGreat.par
open Go
section
variable {σ : Nat → Nat} {D : Nat → Prop} {T : Tables} {F' F : Array Func}
section
variable {op : BinOp} {t : TypeId}
theorem Ri(hinj:zV σ D)(hG:Glob σ D T){k:FloatKind}{n:Nat}{b b':Value}(hb:VR σ D b b')(hu:b≠ .tuple #[]):ay σ D (⟨T,F'⟩:Program) (⟨T,F⟩:Program) (VR σ D) (binOp op t (.float k n) b) (binOp op t (.float k n) b'):=by
 cases hb with
 |undef v hv=>exact absurd rfl hu
 |bool x=>cases op<;>first|exact aj|exact aA|exact aF hinj hG (.float k n) (.bool x)|exact aG hinj hG (.float k n) (.bool x)
 |float x y=>cases op<;>first|exact aS (λ_=>aj) (λ_=>kQ .add _ _ _)|exact aS (λ_=>aj) (λ_=>kQ .sub _ _ _)|exact aS (λ_=>aj) (λ_=>kQ .mul _ _ _)|exact aS (λ_=>aj) (λ_=>kQ .quo _ _ _)|exact aS (λ_=>aj) (λ_=>IW _ _ _ _)
 |complex x y z=>cases op<;>first|exact aj|exact aA|exact aF hinj hG (.float k n) (.complex x y z)|exact aG hinj hG (.float k n) (.complex x y z)
 |string x=>cases op<;>first|exact aj|exact aA|exact aF hinj hG (.float k n) (.string x)|exact aG hinj hG (.float k n) (.string x)
 |int x y=>cases op<;>first|exact aj|exact aA|exact aF hinj hG (.float k n) (.int x y)|exact aG hinj hG (.float k n) (.int x y)
 |bT=>cases op<;>first|exact aj|exact aA|exact aF hinj hG (.float k n) .bT|exact aG hinj hG (.float k n) .bT
 |ptr h=>cases op<;>first|exact aj|exact aA|exact aF hinj hG (.float k n) (.ptr h)|exact aG hinj hG (.float k n) (.ptr h)
 |fK x y=>cases op<;>first|exact aj|exact aA|exact aF hinj hG (.float k n) (.fK x y)|exact aG hinj hG (.float k n) (.fK x y)
 |slice h x y=>cases op<;>first|exact aj|exact aA|exact aF hinj hG (.float k n) (.slice h x y)|exact aG hinj hG (.float k n) (.slice h x y)
 |jy=>cases op<;>first|exact aj|exact aA|exact aF hinj hG (.float k n) .jy|exact aG hinj hG (.float k n) .jy
 |map h=>cases op<;>first|exact aj|exact aA|exact aF hinj hG (.float k n) (.map h)|exact aG hinj hG (.float k n) (.map h)
 |jg=>cases op<;>first|exact aj|exact aA|exact aF hinj hG (.float k n) .jg|exact aG hinj hG (.float k n) .jg
 |func fn h1 h2 h3 h4 h0=>cases op<;>first|exact aj|exact aA|exact aF hinj hG (.float k n) (.func fn h1 h2 h3 h4 h0)|exact aG hinj hG (.float k n) (.func fn h1 h2 h3 h4 h0)
 |weird wm wf wc=>cases op<;>first|exact aj|exact aA|exact aF hinj hG (.float k n) (.weird wm wf wc)|exact aG hinj hG (.float k n) (.weird wm wf wc)
 |yield hy=>cases op<;>first|exact aj|exact aA|exact aF hinj hG (.float k n) (.yield hy)|exact aG hinj hG (.float k n) (.yield hy)
 |jh=>cases op<;>first|exact aj|exact aA|exact aF hinj hG (.float k n) .jh|exact aG hinj hG (.float k n) .jh
 |iface x h=>cases op<;>first|exact aj|exact aA|exact aF hinj hG (.float k n) (.iface x h)|exact aG hinj hG (.float k n) (.iface x h)
 |iH=>cases op<;>first|exact aj|exact aA|exact aF hinj hG (.float k n) .iH|exact aG hinj hG (.float k n) .iH
 |agg h1 h2=>cases op<;>first|exact aj|exact aA|exact aF hinj hG (.float k n) (.agg h1 h2)|exact aG hinj hG (.float k n) (.agg h1 h2)
 |tuple h1 h2=>cases op<;>first|exact aj|exact aA|exact aF hinj hG (.float k n) (.tuple h1 h2)|exact aG hinj hG (.float k n) (.tuple h1 h2)
theorem IY(hinj:zV σ D)(hG:Glob σ D T){k:FloatKind}{n m:Nat}{b b':Value}(hb:VR σ D b b')(hu:b≠ .tuple #[]):ay σ D (⟨T,F'⟩:Program) (⟨T,F⟩:Program) (VR σ D) (binOp op t (.complex k n m) b) (binOp op t (.complex k n m) b'):=by
 cases hb with
 |undef v hv=>exact absurd rfl hu
 |bool x=>cases op<;>first|exact aj|exact aA|exact aF hinj hG (.complex k n m) (.bool x)|exact aG hinj hG (.complex k n m) (.bool x)
 |float x y=>cases op<;>first|exact aj|exact aA|exact aF hinj hG (.complex k n m) (.float x y)|exact aG hinj hG (.complex k n m) (.float x y)
 |complex x y z=>
  have e:∀k' x y,binOp op t (.complex k n m) (.complex k' x y)=if k≠k' then stuck "BinOp: operands of different kinds" else Op.complexOp op k n m x y:=λk' x y=>by cases op<;>rfl
  rw[e]
  exact aS (λ_=>aj) (λ_=>FZ _ _ _ _ _ _)
 |string x=>cases op<;>first|exact aj|exact aA|exact aF hinj hG (.complex k n m) (.string x)|exact aG hinj hG (.complex k n m) (.string x)
 |int x y=>cases op<;>first|exact aj|exact aA|exact aF hinj hG (.complex k n m) (.int x y)|exact aG hinj hG (.complex k n m) (.int x y)
 |bT=>cases op<;>first|exact aj|exact aA|exact aF hinj hG (.complex k n m) .bT|exact aG hinj hG (.complex k n m) .bT
 |ptr h=>cases op<;>first|exact aj|exact aA|exact aF hinj hG (.complex k n m) (.ptr h)|exact aG hinj hG (.complex k n m) (.ptr h)
 |fK x y=>cases op<;>first|exact aj|exact aA|exact aF hinj hG (.complex k n m) (.fK x y)|exact aG hinj hG (.complex k n m) (.fK x y)
 |slice h x y=>cases op<;>first|exact aj|exact aA|exact aF hinj hG (.complex k n m) (.slice h x y)|exact aG hinj hG (.complex k n m) (.slice h x y)
 |jy=>cases op<;>first|exact aj|exact aA|exact aF hinj hG (.complex k n m) .jy|exact aG hinj hG (.complex k n m) .jy
 |map h=>cases op<;>first|exact aj|exact aA|exact aF hinj hG (.complex k n m) (.map h)|exact aG hinj hG (.complex k n m) (.map h)
 |jg=>cases op<;>first|exact aj|exact aA|exact aF hinj hG (.complex k n m) .jg|exact aG hinj hG (.complex k n m) .jg
 |func fn h1 h2 h3 h4 h0=>cases op<;>first|exact aj|exact aA|exact aF hinj hG (.complex k n m) (.func fn h1 h2 h3 h4 h0)|exact aG hinj hG (.complex k n m) (.func fn h1 h2 h3 h4 h0)
 |weird wm wf wc=>cases op<;>first|exact aj|exact aA|exact aF hinj hG (.complex k n m) (.weird wm wf wc)|exact aG hinj hG (.complex k n m) (.weird wm wf wc)
 |yield hy=>cases op<;>first|exact aj|exact aA|exact aF hinj hG (.complex k n m) (.yield hy)|exact aG hinj hG (.complex k n m) (.yield hy)
 |jh=>cases op<;>first|exact aj|exact aA|exact aF hinj hG (.complex k n m) .jh|exact aG hinj hG (.complex k n m) .jh
 |iface x h=>cases op<;>first|exact aj|exact aA|exact aF hinj hG (.complex k n m) (.iface x h)|exact aG hinj hG (.complex k n m) (.iface x h)
 |iH=>cases op<;>first|exact aj|exact aA|exact aF hinj hG (.complex k n m) .iH|exact aG hinj hG (.complex k n m) .iH
 |agg h1 h2=>cases op<;>first|exact aj|exact aA|exact aF hinj hG (.complex k n m) (.agg h1 h2)|exact aG hinj hG (.complex k n m) (.agg h1 h2)
 |tuple h1 h2=>cases op<;>first|exact aj|exact aA|exact aF hinj hG (.complex k n m) (.tuple h1 h2)|exact aG hinj hG (.complex k n m) (.tuple h1 h2)
theorem MH(hinj:zV σ D)(hG:Glob σ D T){s:ByteArray}{b b':Value}(hb:VR σ D b b')(hu:b≠ .tuple #[]):ay σ D (⟨T,F'⟩:Program) (⟨T,F⟩:Program) (VR σ D) (binOp op t (.string s) b) (binOp op t (.string s) b'):=by
 cases hb with
 |undef v hv=>exact absurd rfl hu
 |bool x=>cases op<;>first|exact aj|exact aA|exact aF hinj hG (.string s) (.bool x)|exact aG hinj hG (.string s) (.bool x)
 |float x y=>cases op<;>first|exact aj|exact aA|exact aF hinj hG (.string s) (.float x y)|exact aG hinj hG (.string s) (.float x y)
 |complex x y z=>cases op<;>first|exact aj|exact aA|exact aF hinj hG (.string s) (.complex x y z)|exact aG hinj hG (.string s) (.complex x y z)
 |string x=>
  have e:binOp op t (.string s) (.string x)=Op.stringOp op s x:=by cases op<;>rfl
  rw[e]
  exact yV op s x
 |int x y=>cases op<;>first|exact aj|exact aA|exact aF hinj hG (.string s) (.int x y)|exact aG hinj hG (.string s) (.int x y)
 |bT=>cases op<;>first|exact aj|exact aA|exact aF hinj hG (.string s) .bT|exact aG hinj hG (.string s) .bT
 |ptr h=>cases op<;>first|exact aj|exact aA|exact aF hinj hG (.string s) (.ptr h)|exact aG hinj hG (.string s) (.ptr h)
 |fK x y=>cases op<;>first|exact aj|exact aA|exact aF hinj hG (.string s) (.fK x y)|exact aG hinj hG (.string s) (.fK x y)
 |slice h x y=>cases op<;>first|exact aj|exact aA|exact aF hinj hG (.string s) (.slice h x y)|exact aG hinj hG (.string s) (.slice h x y)
 |jy=>cases op<;>first|exact aj|exact aA|exact aF hinj hG (.string s) .jy|exact aG hinj hG (.string s) .jy
 |map h=>cases op<;>first|exact aj|exact aA|exact aF hinj hG (.string s) (.map h)|exact aG hinj hG (.string s) (.map h)
 |jg=>cases op<;>first|exact aj|exact aA|exact aF hinj hG (.string s) .jg|exact aG hinj hG (.string s) .jg
 |func fn h1 h2 h3 h4 h0=>cases op<;>first|exact aj|exact aA|exact aF hinj hG (.string s) (.func fn h1 h2 h3 h4 h0)|exact aG hinj hG (.string s) (.func fn h1 h2 h3 h4 h0)
 |weird wm wf wc=>cases op<;>first|exact aj|exact aA|exact aF hinj hG (.string s) (.weird wm wf wc)|exact aG hinj hG (.string s) (.weird wm wf wc)
 |yield hy=>cases op<;>first|exact aj|exact aA|exact aF hinj hG (.string s) (.yield hy)|exact aG hinj hG (.string s) (.yield hy)
 |jh=>cases op<;>first|exact aj|exact aA|exact aF hinj hG (.string s) .jh|exact aG hinj hG (.string s) .jh
 |iface x h=>cases op<;>first|exact aj|exact aA|exact aF hinj hG (.string s) (.iface x h)|exact aG hinj hG (.string s) (.iface x h)
 |iH=>cases op<;>first|exact aj|exact aA|exact aF hinj hG (.string s) .iH|exact aG hinj hG (.string s) .iH
 |agg h1 h2=>cases op<;>first|exact aj|exact aA|exact aF hinj hG (.string s) (.agg h1 h2)|exact aG hinj hG (.string s) (.agg h1 h2)
 |tuple h1 h2=>cases op<;>first|exact aj|exact aA|exact aF hinj hG (.string s) (.tuple h1 h2)|exact aG hinj hG (.string s) (.tuple h1 h2)
theorem Vb(hinj:zV σ D)(hG:Glob σ D T){b b':Value}(hb:VR σ D b b')(hu:b≠ .tuple #[]):ay σ D (⟨T,F'⟩:Program) (⟨T,F⟩:Program) (VR σ D) (binOp op t (.pointer none) b) (binOp op t (.pointer none) b'):=by
 cases hb with
 |undef v hv=>exact absurd rfl hu
 |bool x=>cases op<;>first|exact aj|exact aA|exact aF hinj hG .bT (.bool x)|exact aG hinj hG .bT (.bool x)
 |float x y=>cases op<;>first|exact aj|exact aA|exact aF hinj hG .bT (.float x y)|exact aG hinj hG .bT (.float x y)
 |complex x y z=>cases op<;>first|exact aj|exact aA|exact aF hinj hG .bT (.complex x y z)|exact aG hinj hG .bT (.complex x y z)
 |string x=>cases op<;>first|exact aj|exact aA|exact aF hinj hG .bT (.string x)|exact aG hinj hG .bT (.string x)
 |int x y=>cases op<;>first|exact aA|exact aF hinj hG .bT (.int x y)|exact aG hinj hG .bT (.int x y)|exact gI t .bT (.int x _) Af|exact dA t (λd=>aS (λ_=>qy t .bT (.int x y) Af) (λ_=>gI t .bT (.int x y) Af))
 |bT=>cases op<;>first|exact aj|exact aA|exact aF hinj hG .bT .bT|exact aG hinj hG .bT .bT
 |ptr h=>cases op<;>first|exact aj|exact aA|exact aF hinj hG .bT (.ptr h)|exact aG hinj hG .bT (.ptr h)
 |fK x y=>cases op<;>first|exact aj|exact aA|exact aF hinj hG .bT (.fK x y)|exact aG hinj hG .bT (.fK x y)
 |slice h x y=>cases op<;>first|exact aj|exact aA|exact aF hinj hG .bT (.slice h x y)|exact aG hinj hG .bT (.slice h x y)
 |jy=>cases op<;>first|exact aj|exact aA|exact aF hinj hG .bT .jy|exact aG hinj hG .bT .jy
 |map h=>cases op<;>first|exact aj|exact aA|exact aF hinj hG .bT (.map h)|exact aG hinj hG .bT (.map h)
 |jg=>cases op<;>first|exact aj|exact aA|exact aF hinj hG .bT .jg|exact aG hinj hG .bT .jg
 |func fn h1 h2 h3 h4 h0=>cases op<;>first|exact aj|exact aA|exact aF hinj hG .bT (.func fn h1 h2 h3 h4 h0)|exact aG hinj hG .bT (.func fn h1 h2 h3 h4 h0)
 |weird wm wf wc=>cases op<;>first|exact aj|exact aA|exact aF hinj hG .bT (.weird wm wf wc)|exact aG hinj hG .bT (.weird wm wf wc)
 |yield hy=>cases op<;>first|exact aj|exact aA|exact aF hinj hG .bT (.yield hy)|exact aG hinj hG .bT (.yield hy)
 |jh=>cases op<;>first|exact aj|exact aA|exact aF hinj hG .bT .jh|exact aG hinj hG .bT .jh
 |iface x h=>cases op<;>first|exact aj|exact aA|exact aF hinj hG .bT (.iface x h)|exact aG hinj hG .bT (.iface x h)
 |iH=>cases op<;>first|exact aj|exact aA|exact aF hinj hG .bT .iH|exact aG hinj hG .bT .iH
 |agg h1 h2=>cases op<;>first|exact aj|exact aA|exact aF hinj hG .bT (.agg h1 h2)|exact aG hinj hG .bT (.agg h1 h2)
 |tuple h1 h2=>cases op<;>first|exact aj|exact aA|exact aF hinj hG .bT (.tuple h1 h2)|exact aG hinj hG .bT (.tuple h1 h2)
theorem Y2(hinj:zV σ D)(hG:Glob σ D T){p p':Addr}(h:AR σ D p p'){b b':Value}(hb:VR σ D b b')(hu:b≠ .tuple #[]):ay σ D (⟨T,F'⟩:Program) (⟨T,F⟩:Program) (VR σ D) (binOp op t (.pointer (some p)) b) (binOp op t (.pointer (some p')) b'):=by
 cases hb with
 |undef v hv=>exact absurd rfl hu
 |bool x=>cases op<;>first|exact aj|exact aA|exact aF hinj hG (.ptr h) (.bool x)|exact aG hinj hG (.ptr h) (.bool x)
 |float x y=>cases op<;>first|exact aj|exact aA|exact aF hinj hG (.ptr h) (.float x y)|exact aG hinj hG (.ptr h) (.float x y)
 |complex x y z=>cases op<;>first|exact aj|exact aA|exact aF hinj hG (.ptr h) (.complex x y z)|exact aG hinj hG (.ptr h) (.complex x y z)
 |string x=>cases op<;>first|exact aj|exact aA|exact aF hinj hG (.ptr h) (.string x)|exact aG hinj hG (.ptr h) (.string x)
 |int x y=>cases op<;>first|exact aA|exact aF hinj hG (.ptr h) (.int x y)|exact aG hinj hG (.ptr h) (.int x y)|exact gI t (.ptr h) (.int x _) F6|exact(iW h).bind (λx y⟨hx,_⟩=>Bl _ hx _)|exact dA t (λd=>aS (λ_=>qy t (.ptr h) (.int x y) F6) (λ_=>gI t (.ptr h) (.int x y) F6))
 |bT=>cases op<;>first|exact aj|exact aA|exact aF hinj hG (.ptr h) .bT|exact aG hinj hG (.ptr h) .bT
 |ptr k=>cases op<;>first|exact aA|exact aF hinj hG (.ptr h) (.ptr k)|exact aG hinj hG (.ptr h) (.ptr k)|exact(iW h).bind (λx y⟨hx,_⟩=>(iW k).bind (λx2 y2⟨hx2,_⟩=>Mc hinj hG _ hx hx2))|exact(iW h).bind (λx y⟨hx,_⟩=>(iW k).bind (λx2 y2⟨hx2,_⟩=>Me hinj hG _ hx hx2))
 |fK x y=>cases op<;>first|exact aj|exact aA|exact aF hinj hG (.ptr h) (.fK x y)|exact aG hinj hG (.ptr h) (.fK x y)
 |slice hh x y=>cases op<;>first|exact aj|exact aA|exact aF hinj hG (.ptr h) (.slice hh x y)|exact aG hinj hG (.ptr h) (.slice hh x y)
 |jy=>cases op<;>first|exact aj|exact aA|exact aF hinj hG (.ptr h) .jy|exact aG hinj hG (.ptr h) .jy
 |map hh=>cases op<;>first|exact aj|exact aA|exact aF hinj hG (.ptr h) (.map hh)|exact aG hinj hG (.ptr h) (.map hh)
 |jg=>cases op<;>first|exact aj|exact aA|exact aF hinj hG (.ptr h) .jg|exact aG hinj hG (.ptr h) .jg
 |func fn h1 h2 h3 h4 h0=>cases op<;>first|exact aj|exact aA|exact aF hinj hG (.ptr h) (.func fn h1 h2 h3 h4 h0)|exact aG hinj hG (.ptr h) (.func fn h1 h2 h3 h4 h0)
 |weird wm wf wc=>cases op<;>first|exact aj|exact aA|exact aF hinj hG (.ptr h) (.weird wm wf wc)|exact aG hinj hG (.ptr h) (.weird wm wf wc)
 |yield hy=>cases op<;>first|exact aj|exact aA|exact aF hinj hG (.ptr h) (.yield hy)|exact aG hinj hG (.ptr h) (.yield hy)
 |jh=>cases op<;>first|exact aj|exact aA|exact aF hinj hG (.ptr h) .jh|exact aG hinj hG (.ptr h) .jh
 |iface x hh=>cases op<;>first|exact aj|exact aA|exact aF hinj hG (.ptr h) (.iface x hh)|exact aG hinj hG (.ptr h) (.iface x hh)
 |iH=>cases op<;>first|exact aj|exact aA|exact aF hinj hG (.ptr h) .iH|exact aG hinj hG (.ptr h) .iH
 |agg h1 h2=>cases op<;>first|exact aj|exact aA|exact aF hinj hG (.ptr h) (.agg h1 h2)|exact aG hinj hG (.ptr h) (.agg h1 h2)
 |tuple h1 h2=>cases op<;>first|exact aj|exact aA|exact aF hinj hG (.ptr h) (.tuple h1 h2)|exact aG hinj hG (.ptr h) (.tuple h1 h2)
end
theorem Vd(hinj:zV σ D)(hG:Glob σ D T)(op:BinOp)(t:TypeId){a a' b b':Value}(ha:VR σ D a a')(hb:VR σ D b b'):ay σ D (⟨T,F'⟩:Program) (⟨T,F⟩:Program) (VR σ D) (binOp op t a b) (binOp op t a' b'):=by
 by_cases hu:b=.tuple #[]
 ·subst hu
  exact .dead (Rh op t a)
 cases ha with
 |undef v hv=>exact .dead (Et op t b)
 |int k n=>exact YZ hinj hG hb hu
 |float k n=>exact Ri hinj hG hb hu
 |complex k n m=>exact IY hinj hG hb hu
 |string s=>exact MH hinj hG hb hu
 |bT=>exact Vb hinj hG hb hu
 |ptr h=>exact Y2 hinj hG h hb hu
 |bool x=>exact iF hinj hG (.bool x) hb rfl
 |fK x y=>exact iF hinj hG (.fK x y) hb rfl
 |slice h x y=>exact iF hinj hG (.slice h x y) hb rfl
 |jy=>exact iF hinj hG .jy hb rfl
 |map h=>exact iF hinj hG (.map h) hb rfl
 |jg=>exact iF hinj hG .jg hb rfl
 |func fn h1 h2 h3 h4 h0=>exact iF hinj hG (.func fn h1 h2 h3 h4 h0) hb rfl
 |weird wm wf wc=>exact iF hinj hG (.weird wm wf wc) hb rfl
 |yield hy=>exact iF hinj hG (.yield hy) hb rfl
 |jh=>exact iF hinj hG .jh hb rfl
 |iface x h=>exact iF hinj hG (.iface x h) hb rfl
 |iH=>exact iF hinj hG .iH hb rfl
 |agg h1 h2=>exact iF hinj hG (.agg h1 h2) hb rfl
 | @tuple c c' h1 h2=>
  by_cases hc:c= #[]
  ·subst hc
   exact .dead (Et op t b)
  ·exact iF hinj hG (.tuple h1 h2) hb (by simpa [MG]using hc)
end
end Go.Proofs.YtlncengggmgdgaaGreat.par
namespace Go.Proofs.YtlncengggmgdgaaGreat.par
open Go
section
variable {σ : Nat → Nat} {D : Nat → Prop} {T : Tables} {F' F : Array Func}
theorem gG{α β:Type}{R:α->β->Prop}{t:TypeId}{d:TypeDesc}(hd:UJ T t=some d){f:TypeDesc->Sem α}{f':TypeDesc->Sem β}(h:ay σ D (⟨T,F'⟩:Program) (⟨T,F⟩:Program) R (f d) (f' d)):ay σ D (⟨T,F'⟩:Program) (⟨T,F⟩:Program) R (underlying t>>=f) (underlying t>>=f'):=by
 have h0:ay σ D (⟨T,F'⟩:Program) (⟨T,F⟩:Program) (λa b=>a=d/\b=d) (underlying t) (underlying t):=by
  unfold underlying
  refine dh ?_
  have e1:Program.underlying (⟨T,F'⟩:Program) t=some d:=hd
  have e2:Program.underlying (⟨T,F⟩:Program) t=some d:=hd
  rw[e1,e2]
  exact ak ⟨rfl,rfl⟩
 exact h0.bind (λa b⟨e1,e2⟩=>by subst e1 e2;exact h)
theorem acv(s:FloatKind)(b:Nat)(k:IntKind):ay σ D (⟨T,F'⟩:Program) (⟨T,F⟩:Program) (VR σ D) (Conv.floatToInt s b k) (Conv.floatToInt s b k):=by
 unfold Conv.floatToInt
 have any:ay σ D (⟨T,F'⟩:Program) (⟨T,F⟩:Program) (VR σ D) (do Pure.pure (.int k (k.wrap (<-choose (.floatToInt s b k)))):Sem Value) (do Pure.pure (.int k (k.wrap (<-choose (.floatToInt s b k)))):Sem Value):=iK (λ_=>ak (.int _ _))
 dsimp only
 split
 ·exact aS (λ_=>ak (.int _ _)) (λ_=>any)
 ·exact any
theorem MI{src dst:TypeId}(ho:LG T src dst=true){v v':Value}(hv:VR σ D v v'):ay σ D (⟨T,F'⟩:Program) (⟨T,F⟩:Program) (VR σ D) (convert src dst v) (convert src dst v'):=by
 unfold LG at ho
 unfold convert
 split at ho
 ·rename_i e1 e2
  refine gG e1 (gG e2 ?_)
  cases hv<;>first|exact aA|exact ak (.int _ _)|exact acv _ _ _
 ·rename_i e1 e2
  refine gG e1 (gG e2 ?_)
  cases hv<;>first|exact aA|exact ak (.string _)
 ·rename_i e e1 e2
  split at ho
  ·rename_i e3
   refine gG e1 (gG e2 ?_)
   cases hv<;>first|exact aA|exact gG e3 (acp _ _)
  ·cases ho
 ·rename_i e e1 e2
  split at ho
  ·rename_i e3
   refine gG e1 (gG e2 ?_)
   cases hv with
   |int k n=>exact ak (.string _)
   |string s=>exact ak (.string _)
   |fK l c=>exact gG e3 (U4 (.fK l c))
   |slice h l c=>exact gG e3 (U4 (.slice h l c))
   |undef v hv=>
    refine .dead (Bq (λu=> ?_))
    cases u<;>first|exact .halt trivial|(rename_i k;cases k<;>exact .halt trivial)
   |_=>exact gG e3 aj
  ·cases ho
 ·rename_i e1 e2
  refine gG e1 (gG e2 ?_)
  exact vW src dst hv
 ·rename_i e1 e2
  refine gG e1 (gG e2 ?_)
  exact vW src dst hv
 ·cases ho
theorem vY:∀(n:Nat){a a':Addr}(h:AR σ D a a')(s:ByteArray),ay σ D (⟨T,F'⟩:Program) (⟨T,F⟩:Program) Eq (loadBytes a s n) (loadBytes a' s n)
 |0,a,a',h,s=>ak rfl
 |n+1,a,a',h,s=>by
  unfold loadBytes
  refine(Ad .plain h).bind (λv v' hv=> ?_)
  cases hv with
  |int k m=>cases k<;>first|exact vY n (h.add 1) _|exact aj
  |_=>exact aj
theorem dI.two{args args':Array Value}(h:dI σ D args args')(hs:args.size=2):∃a b a' b',args= #[a,b]/\args'= #[a',b']/\VR σ D a a'/\VR σ D b b':=by
 obtain⟨l⟩:=args
 obtain⟨l'⟩:=args'
 obtain⟨h1,h2⟩:=h
 simp only[List.size_toArray]at hs h1
 rcases l with _|⟨a,_|⟨b,_|⟨c,l⟩⟩⟩<;>simp at hs
 rcases l' with _|⟨a',_|⟨b',_|⟨c',l'⟩⟩⟩<;>simp at h1
 exact⟨a,b,a',b',rfl,rfl,h2 0 a a' rfl rfl,h2 1 b b' rfl rfl⟩
theorem dI.one{args args':Array Value}(h:dI σ D args args')(hs:args.size=1):∃a a',args= #[a]/\args'= #[a']/\VR σ D a a':=by
 obtain⟨l⟩:=args
 obtain⟨l'⟩:=args'
 obtain⟨h1,h2⟩:=h
 simp only[List.size_toArray]at hs h1
 rcases l with _|⟨a,_|⟨b,l⟩⟩<;>simp at hs
 rcases l' with _|⟨a',_|⟨b',l'⟩⟩<;>simp at h1
 exact⟨a,a',rfl,rfl,h2 0 a a' rfl rfl⟩
theorem qA(at':Array TypeId)(t:TypeId){args args':Array Value}(h:dI σ D args args'):ay σ D (⟨T,F'⟩:Program) (⟨T,F⟩:Program) (VR σ D) (Builtin.unsafeString_ at' t args) (Builtin.unsafeString_ at' t args'):=by
 unfold Builtin.unsafeString_
 by_cases hs:args.size=2
 ·obtain⟨a,b,a',b',rfl,rfl,ha,hb⟩:=h.two hs
  cases ha with
  |bT=>
   dsimp only
   refine(mM hb).bind (λn n' e=> ?_)
   subst e
   rcases at'[0]? with _|pt
   ·exact aj
   dsimp only
   refine aS (λ_=>gZ (.error _) rfl) (λ_=> ?_)
   refine aS (λ_=>eF) (λ_=> ?_)
   exact aS (λ_=>ak (.string _)) (λ_=>dJ (.error _) rfl)
  |ptr hp=>
   dsimp only
   refine(mM hb).bind (λn n' e=> ?_)
   subst e
   rcases at'[0]? with _|pt
   ·exact aj
   dsimp only
   refine aS (λ_=>gZ (.error _) rfl) (λ_=> ?_)
   refine aS (λ_=>eF) (λ_=> ?_)
   refine aS (λ_=>ak (.string _)) (λ_=> ?_)
   have h0:ay σ D (⟨T,F'⟩:Program) (⟨T,F⟩:Program) Eq (elemOf pt) (elemOf pt):=dA pt (λd=>by cases d<;>first|exact ak rfl|exact aj)
   refine h0.bind (λe e' he=> ?_)
   subst he
   refine(qZ hp _ _).bind (λx y e=> ?_)
   subst e
   refine aS (λ_=> ?_) (λ_=>aA)
   refine(vY _ hp _).bind (λs s' e=> ?_)
   subst e
   exact .freeze hp (.pure (.string _))
  |_=>exact aj
 ·obtain⟨l⟩:=args
  rcases l with _|⟨a,_|⟨b,_|⟨c,l⟩⟩⟩<;>first|exact aj|exact absurd rfl hs
theorem mP(at':Array TypeId)(t:TypeId){args args':Array Value}(h:dI σ D args args'):ay σ D (⟨T,F'⟩:Program) (⟨T,F⟩:Program) (VR σ D) (Builtin.unsafeSliceData_ at' t args) (Builtin.unsafeSliceData_ at' t args'):=by
 unfold Builtin.unsafeSliceData_
 by_cases hs:args.size=1
 ·obtain⟨a,a',rfl,rfl,ha⟩:=h.one hs
  cases ha with
  |fK l c=>exact ak .bT
  | @slice p p' hp l c=>
   refine aS (λ_=>ak (.ptr hp)) (λ_=> ?_)
   have e1:p'.block=σ p.block:=by rw[hp.2]
   rw[e1]
   refine(sN hp.1).bind (λx y hxy=> ?_)
   cases hxy with
   |some _ _=>exact ak (.ptr hp)
   |none=>
    have h0:ay σ D (⟨T,F'⟩:Program) (⟨T,F⟩:Program) Eq (elemOf t) (elemOf t):=dA t (λd=>by cases d<;>first|exact ak rfl|exact aj)
    refine h0.bind (λe e' he=> ?_)
    subst he
    exact uI hp _
  |_=>exact aj
 ·obtain⟨l⟩:=args
  rcases l with _|⟨a,_|⟨b,l⟩⟩<;>first|exact aj|exact absurd rfl hs
theorem Ve(at':Array TypeId)(t:TypeId){args args':Array Value}(h:dI σ D args args'):ay σ D (⟨T,F'⟩:Program) (⟨T,F⟩:Program) (VR σ D) (Builtin.min_ at' t args) (Builtin.min_ at' t args'):=by
 unfold Builtin.min_
 have key:∀(l l':List Value)(x x':Value),l.length=l'.length->(∀(i:Nat)(a b:Value),l[i]? =some a->l'[i]? =some b->VR σ D a b)->VR σ D x x'->ay σ D (⟨T,F'⟩:Program) (⟨T,F⟩:Program) (VR σ D) (l.foldlM Builtin.min2 x) (l'.foldlM Builtin.min2 x'):=by
  intro l
  induction l with
  |nil=>
   intro l' x x' hl _ hx
   cases l' with
   |nil=>exact ak hx
   |cons _ _=>simp at hl
  |cons y l ih=>
   intro l' x x' hl hv hx
   cases l' with
   |nil=>simp at hl
   |cons y' l'=>
    simp only[List.foldlM_cons]
    exact(YS hx (hv 0 y y' rfl rfl)).bind (λz z' hz=>ih l' z z' (by simpa using hl) (λi a b ha hb=>hv (i+1) a b (by simpa using ha) (by simpa using hb)) hz)
 obtain⟨l⟩:=args
 obtain⟨l'⟩:=args'
 obtain⟨h1,h2⟩:=h
 simp only[List.size_toArray]at h1
 cases l with
 |nil=>exact aj
 |cons x l=>
  cases l' with
  |nil=>simp at h1
  |cons x' l'=>exact key l l' x x' (by simpa using h1) (λi a b ha hb=>h2 (i+1) a b (by simpa using ha) (by simpa using hb)) (h2 0 x x' rfl rfl)
theorem Vf(at':Array TypeId)(t:TypeId){args args':Array Value}(h:dI σ D args args'):ay σ D (⟨T,F'⟩:Program) (⟨T,F⟩:Program) (VR σ D) (Builtin.cap_ at' t args) (Builtin.cap_ at' t args'):=by
 unfold Builtin.cap_
 rcases h0:at'[0]? with _|t0
 ·exact aj
 rcases h1:args[0]? with _|s
 ·exact aj
 obtain⟨s',hs',hss⟩:=h.get h1
 rw[hs']
 dsimp only
 refine dA t0 (λd=> ?_)
 cases d with
 |slice e=>cases hss<;>first|exact ak (.int _ _)|exact aj
 |array n e=>exact ak (.int _ _)
 |pointer arr=>
  refine dA arr (λd=> ?_)
  cases d<;>first|exact ak (.int _ _)|exact aj
 |chan k e=>
  cases hss with
  |jg=>exact ak (.int _ _)
  |_=>exact aj
 |_=>exact aj
end
end Go.Proofs.YtlncengggmgdgaaGreat.par
namespace Go.Proofs.YtlncengggmgdgaaGreat.par
open Go
section
variable (σ : Nat → Nat) (D : Nat → Prop)
inductive Vg:Target->Target->Prop
 |func (f:FuncId) {c c':Array Value} (h:dI σ D c c'):Vg (.fn (.func f) c) (.fn (.func f) c')
 |nil:Vg .nil .nil
 |yield {l:Nat} (h:D l):Vg (.fn (.yield l) #[]) (.fn (.yield (σ l)) #[])
 |collected {r:Nat} (h:D r):Vg (.collected r) (.collected (σ r))
 |builtin (b:Builtin) (h:okB b=true) (at':Array TypeId) (t:TypeId) (cs:Array Bool):Vg (.builtin b at' t cs) (.builtin b at' t cs)
inductive IZ:Deferred->Deferred->Prop
 |mk {t t':Target} {a a':Array Value} (ht:Vg σ D t t') (ha:dI σ D a a') (hs:∀f c,t=.fn (.func f) c->nd f=true->a.size+c.size=2):IZ ⟨t,a⟩ ⟨t',a'⟩
 |weird (v:Value) (a:Array Value) (m:String) (c b:Array Value):IZ ⟨.fn (.method "") #[],#[.iface UC v]++a⟩ ⟨.fn (.method m) c,b⟩
def ndT:Target->Bool
 | .fn (.func f) _=> !nd f
 | .builtin b _ _ _=> !isRec b
 |_=>true
def ndN:Next->Bool
 | .enter f _=> !nd f
 | .recover=>false
 |_=>true
def xY(d d':Deferred):Prop:=IZ σ D d d'/\ndT d.target=true
def Both(F' F:Array Func)(f:FuncId):Prop:=∃g' g c' c,F'[f]? =some g'/\F[f]? =some g/\g'.body=some c'/\g.body=some c
inductive jF(rd:Bool)(F' F:Array Func):Next->Next->Prop
 |value {v v':Value} (h:VR σ D v v'):jF rd F' F (.value v) (.value v')
 |skip:jF rd F' F .skip .skip
 |recover (h:rd=false):jF rd F' F .recover .recover
 |round {l:Nat} (hl:D l) (f:FuncId) (hf:f<AB) {t t':Array Value} (h:dI σ D t t') {a a' b b':Code} (ha:dQ vG False true a a') (hb:dQ vG False true b b'):jF rd F' F (.round l f t a b) (.round (σ l) f t' a' b')
 |enter (f:FuncId) (hk:Both F' F f) {a a':Array Value} (h:dI σ D a a') (h2:nd f=true->a.size=2):jF rd F' F (.enter f a) (.enter f a')
 |defer {d d':Deferred} (h:xY σ D d d'):jF rd F' F (.defer d) (.defer d')
end
def Y3(T:Tables)(e:Array Value->Sem Value):Prop:=∀(σ:Nat->Nat)(D:Nat->Prop)(F' F:Array Func)(args args':Array Value),dI σ D args args'->ay σ D (⟨T,F'⟩:Program) (⟨T,F⟩:Program) (VR σ D) (e args) (e args')
inductive FnR(T:Tables):Func->Func->Prop
 |refused {f' f:Func} (hb:f'.body=none) (hn:(f'.name== "runtime.NumGoroutine")=false) (h1:Extern.findNext f'=none) (h2:Extern.find f'=none) (hi:f'.name.endsWith ".init" =false):FnR T f' f
 |ext {f:Func} (hb:f.body=none) (hn:(f.name== "runtime.NumGoroutine")=false) {e:Array Value->Sem Value} (h1:Extern.findNext f=none) (h2:Extern.find f=some e) (he:Y3 T e):FnR T f f
 |both {f' f:Func} {c' c:Code} (hb':f'.body=some c') (hb:f.body=some c) (hn':(f'.name== "runtime.NumGoroutine")=false) (hn:(f.name== "runtime.NumGoroutine")=false):FnR T f' f
def FsR(T:Tables)(F' F:Array Func):Prop:=∀(i:Nat)(f':Func),F'[i]? =some f'->∃f,F[i]? =some f/\FnR T f' f
section
variable {σ : Nat → Nat} {D : Nat → Prop} {T : Tables} {F' F : Array Func} {rd : Bool}
theorem I4(hF:FsR T F' F)(f:FuncId){a a':Array Value}(h2:nd f=true->a.size=2)(h:dI σ D a a'):ay σ D (⟨T,F'⟩:Program) (⟨T,F⟩:Program) (jF σ D rd F' F) (callFunc f a) (callFunc f a'):=by
 unfold callFunc
 refine dh ?_
 rcases hf:F'[f]? with _|fn'
 ·exact aj
 obtain⟨fn,hfn,hr⟩:=hF f fn' hf
 rw[hfn]
 dsimp only
 cases hr with
 |refused hb hn h1 h2 hi=>
  rw[hn,hb]
  simp only[Bool.false_eq_true,if_false,Option.isNone_none,if_true]
  rw[h1,h2,hi]
  exact .dead (.mark (.halt trivial))
 | @ext hb hn e h1 h2 he=>
  rw[hn,hb]
  simp only[Bool.false_eq_true,if_false,Option.isNone_none,if_true]
  refine .mark (.extern f) ?_
  rw[h1,h2]
  exact(he σ D F' F a a' h).bind (λv v' hv=>ak (.value hv))
 |both hb' hb hn' hn=>
  rw[hn',hn,hb',hb]
  simp only[Bool.false_eq_true,if_false,Option.isNone_some]
  exact ak (.enter f ⟨_,_,_,_,hf,hfn,hb',hb⟩ h h2)
def Bv(σ:Nat->Nat)(D:Nat->Prop)(F' F:Array Func)(n n':Next):Prop:=jF σ D false F' F n n'/\ndN n=true
theorem F7(hF:FsR T F' F)(f:FuncId)(h0:nd f=false){a a':Array Value}(h:dI σ D a a'):ay σ D (⟨T,F'⟩:Program) (⟨T,F⟩:Program) (Bv σ D F' F) (callFunc f a) (callFunc f a'):=by
 unfold callFunc
 refine dh ?_
 rcases hf:F'[f]? with _|fn'
 ·exact aj
 obtain⟨fn,hfn,hr⟩:=hF f fn' hf
 rw[hfn]
 dsimp only
 cases hr with
 |refused hb hn h1 h2 hi=>
  rw[hn,hb]
  simp only[Bool.false_eq_true,if_false,Option.isNone_none,if_true]
  rw[h1,h2,hi]
  exact .dead (.mark (.halt trivial))
 | @ext hb hn e h1 h2 he=>
  rw[hn,hb]
  simp only[Bool.false_eq_true,if_false,Option.isNone_none,if_true]
  refine .mark (.extern f) ?_
  rw[h1,h2]
  exact(he σ D F' F a a' h).bind (λv v' hv=>ak ⟨.value hv,rfl⟩)
 |both hb' hb hn' hn=>
  rw[hn',hn,hb',hb]
  simp only[Bool.false_eq_true,if_false,Option.isNone_some]
  exact ak ⟨.enter f ⟨_,_,_,_,hf,hfn,hb',hb⟩ h (λe=>by rw[h0]at e;cases e),by simp[ndN,h0]⟩
theorem Bz{s s':Sem Value}(h:ay σ D (⟨T,F'⟩:Program) (⟨T,F⟩:Program) (VR σ D) s s'):ay σ D (⟨T,F'⟩:Program) (⟨T,F⟩:Program) (Bv σ D F' F) (do Pure.pure (.value (<-s)):Sem Next) (do Pure.pure (.value (<-s')):Sem Next):=h.bind (λa b hab=>ak ⟨.value hab,rfl⟩)
theorem kY{s s':Sem Value}(h:ay σ D (⟨T,F'⟩:Program) (⟨T,F⟩:Program) (VR σ D) s s'):ay σ D (⟨T,F'⟩:Program) (⟨T,F⟩:Program) (jF σ D rd F' F) (do Pure.pure (.value (<-s)):Sem Next) (do Pure.pure (.value (<-s')):Sem Next):=h.bind (λa b hab=>ak (.value hab))
theorem aiP{s s':Sem Unit}(h:ay σ D (⟨T,F'⟩:Program) (⟨T,F⟩:Program) (λ_ _=>True) s s'):ay σ D (⟨T,F'⟩:Program) (⟨T,F⟩:Program) (jF σ D rd F' F) (do s;Pure.pure .skip:Sem Next) (do s';Pure.pure .skip:Sem Next):=h.bind (λa b hab=>ak .skip)
def Y4:Target->Bool
 | .builtin b _ _ _=>isRec b
 |_=>false
theorem mQ{l:Nat}(h:D l):ay σ D (⟨T,F'⟩:Program) (⟨T,F⟩:Program) (λr r'=>OR σ D (.loop r) (.loop r')) (Instr.getLoop l) (Instr.getLoop (σ l)):=by
 unfold Instr.getLoop
 refine ay.getObj h λo o' ho=> ?_
 have h2:=ho
 cases ho<;>first|exact .pure h2|exact .dead (.halt trivial)
theorem Y5{ps:List Tmp}{a a':List Value}{t t':Array Value}(hl:a.length=a'.length)(h:∀(i:Nat)(x y:Value),a[i]? =some x->a'[i]? =some y->VR σ D x y)(ht:dI σ D t t'):
  dI σ D ((ps.zip a).foldl (λtmps(t,a)=>tmps.setIfInBounds t a) t) ((ps.zip a').foldl (λtmps(t,a)=>tmps.setIfInBounds t a) t'):=by
 induction ps generalizing a a' t t' with
 |nil=>simpa using ht
 |cons p ps ih=>
  rcases a with _|⟨x,a⟩<;>rcases a' with _|⟨y,a'⟩
  ·simpa using ht
  ·simp at hl
  ·simp at hl
  ·simp only[List.zip_cons_cons,List.foldl_cons]
   exact ih (by simpa using hl) (λi x y hx hy=>h (i+1) x y (by simpa using hx) (by simpa using hy)) (ht.set (h 0 x y rfl rfl))
theorem Eu{l:Nat}(h:D l){a a':Array Value}(ha:dI σ D a a'):ay σ D (⟨T,F'⟩:Program) (⟨T,F⟩:Program) (λn n'=>jF σ D rd F' F n n'/\ndN n=true) (Instr.yield l a) (Instr.yield (σ l) a'):=by
 unfold Instr.yield
 refine(mQ h).bind λr r' hr=> ?_
 cases hr with
 |loop hs hp hf hn ht hq hA hB hd he=>
  rw[hq,ha.1]
  by_cases hc:a'.size≠r'.params.size
  ·rw[if_pos hc,if_pos hc];exact aj
  ·rw[if_neg hc,if_neg hc,<-hf]
   refine ak ⟨.round h r.fn hn ?_ hA hB,rfl⟩
   rw[<-Array.foldl_toList,<-Array.foldl_toList,Array.toList_zip,Array.toList_zip]
   exact Y5 (by simpa using ha.1) (λi x y hx hy=>ha.2 i x y (by simpa using hx) (by simpa using hy)) ht
theorem Vh{l:Nat}(h:D l){a a':Array Value}(ha:dI σ D a a'):ay σ D (⟨T,F'⟩:Program) (⟨T,F⟩:Program) (jF σ D rd F' F) (Instr.yield l a) (Instr.yield (σ l) a'):=(Eu h ha).mono λ_ _ h=>h.1
theorem MJ(hz:ZP T)(b:Builtin)(hb:okB b=true)(hr:rd=true->isRec b=false)(at':Array TypeId)(t:TypeId)(cs:Array Bool){a a':Array Value}(h:dI σ D a a'):ay σ D (⟨T,F'⟩:Program) (⟨T,F⟩:Program) (jF σ D rd F' F) (builtin b at' t cs a) (builtin b at' t cs a'):=by
 cases b<;>first|(exact absurd (show false=true from hb) Bool.false_ne_true)|exact ak (.recover (by cases rd<;>first|rfl|cases hr rfl))|exact kY (Ej hz at' t h)|exact kY (Vf at' t h)|exact kY (OX at' t h)|exact kY (U2 at' t h)|exact kY (Ve at' t h)|exact kY (mP at' t h)|exact kY (qA at' t h)
theorem Ew(hz:ZP T)(hF:FsR T F' F){t t':Target}(ht:Vg σ D t t')(hr:rd=true->Y4 t=false){a a':Array Value}(ha:dI σ D a a')(hs:∀f c,t=.fn (.func f) c->nd f=true->a.size+c.size=2):ay σ D (⟨T,F'⟩:Program) (⟨T,F⟩:Program) (jF σ D rd F' F) (invoke t a) (invoke t' a'):=by
 cases ht with
 |nil=>exact dJ .nilDeref rfl
 |builtin b hb at' t cs=>exact MJ hz b hb hr at' t cs ha
 |yield h=>exact Vh h ha
 |collected h=>exact aj
 |func f hc=>exact I4 hF f (λe=>by rw[Array.size_append];exact hs f _ rfl e) (ha.append hc)
theorem I5(hz:ZP T)(b:Builtin)(hb:okB b=true)(hn:isRec b=false)(at':Array TypeId)(t:TypeId)(cs:Array Bool){a a':Array Value}(h:dI σ D a a'):ay σ D (⟨T,F'⟩:Program) (⟨T,F⟩:Program) (Bv σ D F' F) (builtin b at' t cs a) (builtin b at' t cs a'):=by
 cases b<;>first|(exact absurd (show false=true from hb) Bool.false_ne_true)|(exact absurd (show true=false from hn) (by decide))|exact Bz (Ej hz at' t h)|exact Bz (Vf at' t h)|exact Bz (OX at' t h)|exact Bz (U2 at' t h)|exact Bz (Ve at' t h)|exact Bz (mP at' t h)|exact Bz (qA at' t h)
theorem MK(hz:ZP T)(hF:FsR T F' F){t t':Target}(ht:Vg σ D t t')(hn:ndT t=true){a a':Array Value}(ha:dI σ D a a'):ay σ D (⟨T,F'⟩:Program) (⟨T,F⟩:Program) (Bv σ D F' F) (invoke t a) (invoke t' a'):=by
 cases ht with
 |nil=>exact dJ .nilDeref rfl
 |builtin b hb at' t cs=>exact I5 hz b hb (by simpa [ndT]using hn) at' t cs ha
 |func f hc=>exact F7 hF f (by simpa [ndT]using hn) (ha.append hc)
 |yield h=>exact Eu h ha
 |collected h=>exact aj
def I7(σ:Nat->Nat)(D:Nat->Prop)(ρ ρ':Operand->Value):Prop:=(∀x,dZ x=true->VR σ D (ρ x) (ρ' x))/\∀f,ρ (.func f)=.func (.func f) #[] #[]/\ρ' (.func f)=.func (.func f) #[] #[]
theorem Ag{ρ ρ':Operand->Value}(hr:I7 σ D ρ ρ'){xs:Array Operand}(h:xs.all dZ=true):dI σ D (xs.map ρ) (xs.map ρ'):=by
 rw[Array.all_eq_true_iff_forall_mem]at h
 refine⟨by simp,λi x y hx hy=> ?_⟩
 simp only[Array.getElem?_map,Option.map_eq_some_iff]at hx hy
 obtain⟨a,ha,rfl⟩:=hx
 obtain⟨b,hb,rfl⟩:=hy
 rw[ha]at hb
 cases hb
 exact hr.1 a (h a (Array.mem_of_getElem? ha))
theorem F8{ρ ρ':Operand->Value}(hr:I7 σ D ρ ρ'){x:Option Operand}(h:x.all dZ=true):uH (VR σ D) (x.map ρ) (x.map ρ'):=by
 cases x with
 |none=>exact .none
 |some x=>exact .some (hr.1 x (by simpa using h))
theorem Ey{ρ ρ':Operand->Value}(hr:I7 σ D ρ ρ'){ps:Array (Nat×Operand)}(h:ps.all (λp=>dZ p.2)=true):PsR σ D (ps.map λ(i,x)=>(i,ρ x)) (ps.map λ(i,x)=>(i,ρ' x)):=by
 rw[Array.all_eq_true_iff_forall_mem]at h
 refine⟨by simp,λi x y hx hy=> ?_⟩
 simp only[Array.getElem?_map,Option.map_eq_some_iff]at hx hy
 obtain⟨a,ha,rfl⟩:=hx
 obtain⟨b,hb,rfl⟩:=hy
 rw[ha]at hb
 cases hb
 exact⟨rfl,hr.1 _ (h a (Array.mem_of_getElem? ha))⟩
theorem ML{ρ ρ':Operand->Value}(hr:I7 σ D ρ ρ'){c:Call}(h:xQ c=true)(t:TypeId):ay σ D (⟨T,F'⟩:Program) (⟨T,F⟩:Program) (λd d'=>IZ σ D d d'/\(UM (.call c)=true->Y4 d.target=false)) (resolve ρ c t) (resolve ρ' c t):=by
 obtain⟨callee,args,at'⟩:=c
 unfold xQ at h
 simp only[Bool.and_eq_true]at h
 have ha:=Ag hr h.1
 unfold resolve
 cases callee with
 |builtin b=>exact ak ⟨.mk (.builtin b h.2 at' t _) ha (λ_ _ e=>by cases e),λe=>by simpa [UM,Y4]using e⟩
 |invoke r m=>cases h.2
 |value f=>
  by_cases hs:∃k,f=.func k
  ·obtain⟨k,rfl⟩:=hs
   dsimp only
   unfold Deferred.ofValue
   rw[(hr.2 k).1,(hr.2 k).2]
   refine ak ⟨(.mk (.func k ⟨rfl,λi x y hx=>by simp at hx⟩) (dI.append ⟨rfl,λi x y hx=>by simp at hx⟩ ha) (λf c e hn=>by
    cases e
    have:=h.2
    simp only[Bool.and_eq_true]at this
    have h3:=this.2
    change (!nd k||args.size==2)=true at h3
    rw[hn]at h3
    simpa using h3)),λ_=>rfl⟩
  have hf:=hr.1 f (by
   have h3:=h.2
   simp only[Bool.and_eq_true]at h3
   cases f<;>first|exact h3.1|exact absurd ⟨_,rfl⟩ hs)
  dsimp only
  unfold Deferred.ofValue
  revert hf
  generalize ρ f=v
  generalize ρ' f=v'
  intro hf
  cases hf with
  |func fn h1 h2 h3 h4 h0=>exact ak ⟨.mk (.func fn ⟨h3,h4⟩) (dI.append ⟨h1,h2⟩ ha) (λf c e hn=>by cases e;rw[h0]at hn;cases hn),λ_=>rfl⟩
  |weird m f c=>exact ak ⟨.weird _ _ m c _,λ_=>rfl⟩
  |yield h=>exact ak ⟨.mk (.yield h) (dI.append ⟨rfl,λi x y hx=>by simp at hx⟩ ha) (λf c e hn=>by cases e),λ_=>rfl⟩
  |jh=>exact ak ⟨.mk .nil ha (λ_ _ e=>by cases e),λ_=>rfl⟩
  |_=>exact aj
theorem I8{ρ ρ':Operand->Value}(hr:I7 σ D ρ ρ'){c:Call}(h:xQ c=true)(hd:abJ c=true)(t:TypeId):ay σ D (⟨T,F'⟩:Program) (⟨T,F⟩:Program) (xY σ D) (resolve ρ c t) (resolve ρ' c t):=by
 obtain⟨callee,args,at'⟩:=c
 unfold xQ at h
 simp only[Bool.and_eq_true]at h
 have ha:=Ag hr h.1
 unfold resolve
 cases callee with
 |builtin b=>exact ak ⟨.mk (.builtin b h.2 at' t _) ha (λ_ _ e=>by cases e),hd⟩
 |invoke r m=>cases h.2
 |value f=>
  have hf:=hr.1 f hd
  dsimp only
  unfold Deferred.ofValue
  revert hf
  generalize ρ f=v
  generalize ρ' f=v'
  intro hf
  cases hf with
  |func fn h1 h2 h3 h4 h0=>exact ak ⟨.mk (.func fn ⟨h3,h4⟩) (dI.append ⟨h1,h2⟩ ha) (λf c e hn=>by cases e;rw[h0]at hn;cases hn),by simp[ndT,h0]⟩
  |weird m f c=>exact ak ⟨.weird _ _ m c _,rfl⟩
  |yield h=>exact ak ⟨.mk (.yield h) (dI.append ⟨rfl,λi x y hx=>by simp at hx⟩ ha) (λf c e hn=>by cases e),rfl⟩
  |jh=>exact ak ⟨.mk .nil ha (λ_ _ e=>by cases e),rfl⟩
  |_=>exact aj
theorem Vj{α β:Type}{R:α->β->Prop}(hz:ZP T)(v:Value)(n:Nat){k:Option Bool->Sem α}(hk:Dead (k none)){s':Sem β}:ay σ D (⟨T,F'⟩:Program) (⟨T,F⟩:Program) R (nilAhead n UC v "" >>=k) s':=by
 cases n with
 |zero=>exact .dead hk
 |succ n=>
  unfold nilAhead typeInfo
  refine .uq ?_
  have h2:=hz.2.1
  simp only[Sem.bind]
  rcases hi:T.info? UC with _|i
  ·exact .dead (.halt trivial)
  ·show ay σ D _ _ R (Sem.bind (Sem.bind (Sem.pure i) _) k) s'
   simp only[Sem.bind,h2 i hi]
   exact .dead (.halt trivial)
theorem pI{β:Type}{R:Next->β->Prop}(hz:ZP T)(v:Value)(a:Array Value){s':Sem β}:ay σ D (⟨T,F'⟩:Program) (⟨T,F⟩:Program) R (invoke (.fn (.method "") #[]) (#[.iface UC v]++a)) s':=by
 unfold invoke
 have e:(#[Value.iface UC v]++a)[0]? =some (.iface UC v):=by simp[Array.getElem?_append]
 dsimp only
 rw[e]
 dsimp only
 unfold callMethod
 dsimp only
 refine .uq ?_
 simp only[Sem.bind]
 generalize(⟨T,F'⟩:Program).types.size+Made.depth=n
 cases n with
 |zero=>exact .dead (.halt trivial)
 |succ n=>
  unfold method typeInfo
  refine .uq ?_
  have h2:=hz.2.1
  simp only[Sem.bind]
  rcases hi:T.info? UC with _|i
  ·exact .dead (.halt trivial)
  ·show ay σ D _ _ R (Sem.bind (Sem.bind (Sem.pure i) _) _) s'
   simp only[Sem.bind,h2 i hi]
   exact .dead (.halt trivial)
theorem I9(hz:ZP T){ρ ρ':Operand->Value}(hr:I7 σ D ρ ρ'){x:Operand}(h:dZ x=true)(o:Oper)(ho:o.op=.nilCheck x):ay σ D (⟨T,F'⟩:Program) (⟨T,F⟩:Program) (jF σ D rd F' F) (execOp ρ o) (execOp ρ' o):=by
 unfold execOp
 rw[ho]
 dsimp only
 have hx:=hr.1 x h
 revert hx
 generalize ρ x=v
 generalize ρ' x=v'
 intro hx
 cases hx with
 |bT=>exact dJ .nilDeref rfl
 |iH=>exact dJ .nilDeref rfl
 |jh=>exact dJ .nilDeref rfl
 |undef v hv=>
  refine(show ay σ D (⟨T,F'⟩:Program) (⟨T,F⟩:Program) (jF σ D rd F' F) (Pure.pure (.value (.tuple #[]))) _ from ?_)
  split<;>first|(simp[UN]at hv;done)|exact ak (.value (.undef _ hv))
 |func fn h1 h2 h3 h4 h0=>exact ak (.value (.func fn h1 h2 h3 h4 h0))
 |yield h=>exact ak (.value (.yield h))
 |weird m f c=>
  refine .uq ?_
  refine Vj hz _ _ ?_
  exact Dead.halt (h:=.unsupported (.noEntry "op/nilCheck.the method's receiver behind this interface value is a nil pointer, or cannot be seen to be none, and the arguments act or may panic (ledger 612)")) trivial
 |bool b=>exact ak (.value (.bool b))
 |int k n=>exact ak (.value (.int k n))
 |float k n=>exact ak (.value (.float k n))
 |complex k n m=>exact ak (.value (.complex k n m))
 |string s=>exact ak (.value (.string s))
 |ptr h=>exact ak (.value (.ptr h))
 |fK l c=>exact ak (.value (.fK l c))
 |slice h l c=>exact ak (.value (.slice h l c))
 |jy=>exact ak (.value .jy)
 |map h=>exact ak (.value (.map h))
 |jg=>exact ak (.value .jg)
 |iface t h=>exact ak (.value (.iface t h))
 |agg h1 h2=>exact ak (.value (.agg h1 h2))
 |tuple h1 h2=>exact ak (.value (.tuple h1 h2))
theorem D8(hz:ZP T){v v':Value}(h:VR σ D v v')(xt t:TypeId):ay σ D (⟨T,F'⟩:Program) (⟨T,F⟩:Program) (VR σ D) (Instr.typeAssert v xt t true) (Instr.typeAssert v' xt t true):=by
 have hold:∀{x x':Value},VR σ D x x'->VR σ D (.tuple #[x,.bool true]) (.tuple #[x',.bool true]):=λhx=>.tuple rfl (λi a b ha hb=>by
  rcases i with _|_|i<;>simp at ha hb
  ·subst ha hb;exact hx
  ·subst ha hb;exact .bool true)
 have fail:ay σ D (⟨T,F'⟩:Program) (⟨T,F⟩:Program) (VR σ D) (do Pure.pure (.tuple #[<-zeroValue t,.bool false]):Sem Value) (do Pure.pure (.tuple #[<-zeroValue t,.bool false]):Sem Value):=(o9 hz t).bind λa b e=>by
  obtain⟨rfl,hs⟩:=e
  exact ak (.tuple rfl (λi x y ha hb=>by
   rcases i with _|_|i<;>simp at ha hb
   ·subst ha hb;exact hs σ D
   ·subst ha hb;exact .bool false))
 unfold Instr.typeAssert
 dsimp only[if_true]
 refine dA t λd=> ?_
 cases h with
 |iface k hv=>
  cases d<;>first
   |(dsimp only;split
     ·exact ak (hold hv)
     ·exact fail)
   |(dsimp only
     refine jv _ λi _=> ?_
     split
     ·exact ak (hold (.iface k hv))
     ·exact fail)
 |iH=>cases d<;>exact fail
 |_=>cases d<;>exact .dead (.halt trivial)
theorem Rj(hz:ZP T)(hF:FsR T F' F)(hinj:zV σ D)(hG:Glob σ D T){ρ ρ':Operand->Value}(hr:I7 σ D ρ ρ')(o:Oper)(ho:vF T o.op=true)(hrd:rd=true->UM o.op=true):ay σ D (⟨T,F'⟩:Program) (⟨T,F⟩:Program) (jF σ D rd F' F) (execOp ρ o) (execOp ρ' o):=by
 obtain⟨dst,op,type,pos,after,guard⟩:=o
 dsimp only at ho
 cases op<;>first|(exact absurd (show false=true from ho) Bool.false_ne_true)|skip
 case move x=>exact ak (.value (hr.1 x ho))
 case assign x=>exact ak (.value (hr.1 x ho))
 case pick c a b=>
  simp only[vF,Bool.and_eq_true]at ho
  refine(Ei (hr.1 c ho.1.1)).bind (λx y e=> ?_)
  subst e
  cases x
  ·exact ak (.value (hr.1 b ho.2))
  ·exact ak (.value (hr.1 a ho.1.2))
 case alloc t=>exact kY (UR hz t)
 case box t x=>exact kY (acn t (hr.1 x ho))
 case build t ps=>exact kY (UY hz t (Ey hr ho))
 case buildSlice t n ps=>exact kY (DZ hz t n (Ey hr ho))
 case load t x=>exact kY (QN t (hr.1 x ho))
 case store t a x=>
  simp only[vF,Bool.and_eq_true]at ho
  exact aiP (LK t (hr.1 a ho.1) (hr.1 x ho.2))
 case nilCheck x=>exact I9 hz hr ho _ rfl
 case binOp op xt x y yt=>
  simp only[vF,Bool.and_eq_true]at ho
  exact kY ((MB op xt x y (hr.1 x ho.1) (hr.1 y ho.2)).bind (λ_ _ _=>Vd hinj hG op xt (hr.1 x ho.1) (hr.1 y ho.2)))
 case unOp op t x=>exact kY (U3 op (hr.1 x ho))
 case convert s d x=>
  simp only[vF,Bool.and_eq_true]at ho
  exact kY (MI ho.1 (hr.1 x ho.2))
 case makeInterface t x=>exact kY (FW t (hr.1 x ho))
 case makeFunc fn a b=>
  simp only[vF,Bool.and_eq_true]at ho
  cases fn<;>first|(exact absurd (show false=true from ho.1.1) Bool.false_ne_true)|skip
  exact kY (II _ (by simpa [aeT]using ho.1.1) (Ag hr ho.1.2) (Ag hr ho.2))
 case makeSlice t a x=>
  simp only[vF,Bool.and_eq_true]at ho
  exact kY (FU hz t (hr.1 a ho.1) (hr.1 x ho.2))
 case slice t x l h m=>
  simp only[vF,Bool.and_eq_true]at ho
  exact kY (LX t (hr.1 x ho.1.1.1) (F8 hr ho.1.1.2) (F8 hr ho.1.2) (F8 hr ho.2))
 case fieldAddr t x i=>exact kY (LV t (hr.1 x ho) i)
 case field t x i=>exact kY (UW t (hr.1 x ho) i)
 case indexAddr t a x=>
  simp only[vF,Bool.and_eq_true]at ho
  exact kY (UU t (hr.1 a ho.1) (hr.1 x ho.2))
 case index t a x=>
  simp only[vF,Bool.and_eq_true]at ho
  exact kY (aco t (hr.1 a ho.1) (hr.1 x ho.2))
 case extract x i=>exact kY (LU (hr.1 x ho) i)
 case call c=>
  refine(ML hr ho type).bind (λd d'⟨hd,hd2⟩=> ?_)
  cases hd with
  |mk ht ha hs=>exact Ew hz hF ht (λe=>hd2 (hrd e)) ha hs
  |weird v a m c b=>exact pI hz v a
 case defer c=>
  simp only[vF,Bool.and_eq_true]at ho
  exact(I8 hr ho.1 ho.2 type).bind (λd d' hd=>ak (.defer hd))
 case typeAssert x xt t ok=>
  simp only[vF,Bool.and_eq_true]at ho
  obtain⟨rfl,hx⟩:=ho
  exact kY (D8 hz (hr.1 x hx) xt t)
end
end Go.Proofs.YtlncengggmgdgaaGreat.par
