/- Rows of numbers, read and of one's own: append, as a statement and as a step. No conditions. -/
import Derived.Test.YtlncengggmgdgaaGreatG22
import Derived.Test.YtlncengggmgdgaaGreatLx
import Derived.Test.YtlncengggmgdgaaGreatG26
set_option linter.unusedVariables false
set_option linter.unusedSimpArgs false
namespace Go.Proofs.YtlncengggmgdgaaGreat.lx
open Go Go.RowKit gr ob
attribute [local irreducible] par.ah
theorem Hz(x:Int):(enI x).length=1:=rfl
theorem aN(x:Int):(nH x).length=1:=rfl
theorem aaU(x:Int):∀u∈enI x,u.oneCell'=true:=λu hu=>by
 obtain rfl:=List.mem_singleton.1 hu
 rfl
theorem aaV(x:Int):∀u∈nH x,u.oneCell'=true:=λu hu=>by
 obtain rfl:=List.mem_singleton.1 hu
 rfl
theorem rY{ops:Array Oper}{rest:List Oper}{o:Oper}{a:Act}{Q:Exit->Act->World->Prop}(w:World)(hw:Region.wanted o (yielded ops a.tmps)=true)(s x:Operand)
  (ho:o.op=.call {callee:=.builtin .append,args:= #[s,x],argTypes:= #[32,32]})
  (B:Nat) (v u:Value) (xs ys:List Int) (hs:a.eval s=v) (hx:a.eval x=u) (hown:aX 24 1 nH w B v xs) (hys:jc 1 nH w u ys) (hbig:xs.length+ys.length<100000000000) (hB:B<=w.heap.size)
  (h:∀v' w',aX 24 1 nH w' B v' (xs++ys)->w.grownBy w' v.ownBlock->(v'.ownBlock=v.ownBlock\/v'.ownBlock=some w.heap.size)->wpList (par.ah par.Hm) ops Q rest (a.put o.dst v') w'):wpList (par.ah par.Hm) ops Q (o::rest) a w:=
 Fp (α:=Int) (k:=1) (en:=nH) w hw s x _ ho aN aaV _ 8 ((par.aB par.Hm 32).trans Tryz.underlying32) Dp rfl (by decide) (by decide) B v u xs ys hs hx hown hys hbig hB h
theorem KA(w:World)(x:Int){m:Nat}(hm:m=w.heap.size):jc 1 nH (w.alloc (.cells #[.int .u64 x] 24)) (.slice (some ⟨m,0,none⟩) 1 1) [x]:=lD w x _ rfl _ hm
theorem ab6{ops:Array Oper}{rest:List Oper}{o:Oper}{a:Act}{Q:Exit->Act->World->Prop}(w:World)(hw:Region.wanted o (yielded ops a.tmps)=true)(s x:Operand)
  (ho:o.op=.call {callee:=.builtin .append,args:= #[s,x],argTypes:= #[23,23]})
  (B:Nat) (v u:Value) (xs ys:List Int) (hs:a.eval s=v) (hx:a.eval x=u) (hown:aX 3 1 enI w B v xs) (hys:jc 1 enI w u ys) (hbig:xs.length+ys.length<100000000000) (hB:B<=w.heap.size)
  (h:∀v' w',aX 3 1 enI w' B v' (xs++ys)->w.grownBy w' v.ownBlock->(v'.ownBlock=v.ownBlock\/v'.ownBlock=some w.heap.size)->wpList (par.ah par.Hm) ops Q rest (a.put o.dst v') w'):wpList (par.ah par.Hm) ops Q (o::rest) a w:=
 Fp (α:=Int) (k:=1) (en:=enI) w hw s x _ ho Hz aaU _ 8 ((par.aB par.Hm 23).trans Tryz.underlying23) XI rfl (by decide) (by decide) B v u xs ys hs hx hown hys hbig hB h
theorem Qs{W:World}{v:Value}{zs:List Int}(h:jc 1 nH W v zs)(h0:0<W.heap.size)(hl:zs.length<1000000000000):Oq W v zs:=by
 obtain⟨ad,b,off,cap,rfl,h1,h2,h3,h4,h5,h6⟩:=h.form
 rcases Nat.eq_zero_or_pos zs.length with hz|hz
 ·have:zs=[]:=List.eq_nil_of_length_eq_zero hz
  subst this
  exact⟨ad,0,0,cap,rfl,⟨λh=>by simp at h,h2⟩,Nat.zero_le _,⟨h4,hl⟩,h0,dV.none _ _ _ _⟩
 ·have:=h1 hz
  subst this
  refine⟨_,b,off,cap,rfl,⟨λ_=>rfl,h2⟩,h3,⟨h4,hl⟩,h5 hz,Kz λi hi=> ?_⟩
  have h7:=h6.at (i:=i) (x:=zs[i]) (List.getElem?_eq_getElem hi) 0 (.int .u64 zs[i]) rfl
  rw[show b=b from rfl]at h7
  simpa [List.getD,hi]using h7
end Go.Proofs.YtlncengggmgdgaaGreat.lx
