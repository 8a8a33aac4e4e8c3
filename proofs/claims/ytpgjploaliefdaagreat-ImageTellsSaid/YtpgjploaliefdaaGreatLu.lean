/- Rows of numbers, read and of one's own: append, as a statement and as a step. No conditions. -/
import Derived.Test.YtpgjploaliefdaaGreatLx
import Derived.Test.YtpgjploaliefdaaGreatG03
namespace Go.Proofs.YtpgjploaliefdaaGreat.lx
open Go Go.RowKit gr ob
set_option linter.unusedVariables false
set_option linter.unusedSimpArgs false
theorem jE(x:Int):(zK x).length=1:=rfl
theorem fJ(x:Int):(oG x).length=1:=rfl
theorem OC(x:Int):∀u∈zK x,u.oneCell'=true:=λu hu=>by
 obtain rfl:=List.mem_singleton.1 hu
 rfl
theorem OD(x:Int):∀u∈oG x,u.oneCell'=true:=λu hu=>by
 obtain rfl:=List.mem_singleton.1 hu
 rfl
theorem D7{ops:Array Oper}{rest:List Oper}{o:Oper}{a:Act}{Q:Exit->Act->World->Prop}(w:World)(hw:Region.wanted o (yielded ops a.tmps)=true)(s x:Operand)
  (ho:o.op=.call {callee:=.builtin .append,args:= #[s,x],argTypes:= #[29,29]})
  (B:Nat) (v u:Value) (xs ys:List Int) (hs:a.eval s=v) (hx:a.eval x=u) (hown:ak 24 1 oG w B v xs) (hys:fH 1 oG w u ys) (hbig:xs.length+ys.length<100000000000) (hB:B<=w.heap.size)
  (h:∀v' w',ak 24 1 oG w' B v' (xs++ys)->w.grownBy w' v.ownBlock->(v'.ownBlock=v.ownBlock\/v'.ownBlock=some w.heap.size)->wpList Tryz.prog ops Q rest (a.put o.dst v') w'):wpList Tryz.prog ops Q (o::rest) a w:=
 Fq (α:=Int) (k:=1) (en:=oG) w hw s x _ ho fJ OD _ 8 Tryz.underlying29 rY rfl (by decide) (by decide) B v u xs ys hs hx hown hys hbig hB h
theorem D8{ops:Array Oper}{o:Oper}{a:Act}{Q:Exit->Act->World->Prop}{w:World}{K:Act->World->Prop}{E:Prop}(hg:o.guard=none)(s x:Operand)
  (ho:o.op=.call {callee:=.builtin .append,args:= #[s,x],argTypes:= #[29,29]})
  (B:Nat) (v u:Value) (xs ys:List Int) (hs:a.eval s=v) (hx:a.eval x=u) (hown:ak 24 1 oG w B v xs) (hys:fH 1 oG w u ys) (hbig:xs.length+ys.length<100000000000) (hB:B<=w.heap.size)
  (h:∀v' w',ak 24 1 oG w' B v' (xs++ys)->w.grownBy w' v.ownBlock->(v'.ownBlock=v.ownBlock\/v'.ownBlock=some w.heap.size)->K (a.put o.dst v') w'):
  if Region.wanted o (yielded ops a.tmps)=true then Oper.wp Tryz.prog o a w K Q else E:=
 Tv (α:=Int) (k:=1) (en:=oG) hg s x _ ho fJ OD _ 8 Tryz.underlying29 rY rfl (by decide) (by decide) B v u xs ys hs hx hown hys hbig hB h
theorem FT(w:World)(x:Int){m:Nat}(hm:m=w.heap.size):fH 1 oG (w.alloc (.cells #[.int .u64 x] 24)) (.slice (some ⟨m,0,none⟩) 1 1) [x]:=jC w x _ rfl _ hm
theorem acA{ops:Array Oper}{rest:List Oper}{o:Oper}{a:Act}{Q:Exit->Act->World->Prop}(w:World)(hw:Region.wanted o (yielded ops a.tmps)=true)(s x:Operand)
  (ho:o.op=.call {callee:=.builtin .append,args:= #[s,x],argTypes:= #[23,23]})
  (B:Nat) (v u:Value) (xs ys:List Int) (hs:a.eval s=v) (hx:a.eval x=u) (hown:ak 3 1 zK w B v xs) (hys:fH 1 zK w u ys) (hbig:xs.length+ys.length<100000000000) (hB:B<=w.heap.size)
  (h:∀v' w',ak 3 1 zK w' B v' (xs++ys)->w.grownBy w' v.ownBlock->(v'.ownBlock=v.ownBlock\/v'.ownBlock=some w.heap.size)->wpList Tryz.prog ops Q rest (a.put o.dst v') w'):wpList Tryz.prog ops Q (o::rest) a w:=
 Fq (α:=Int) (k:=1) (en:=zK) w hw s x _ ho jE OC _ 8 Tryz.underlying23 Du rfl (by decide) (by decide) B v u xs ys hs hx hown hys hbig hB h
theorem AX{ops:Array Oper}{o:Oper}{a:Act}{Q:Exit->Act->World->Prop}{w:World}{K:Act->World->Prop}{E:Prop}(hg:o.guard=none)(s x:Operand)
  (ho:o.op=.call {callee:=.builtin .append,args:= #[s,x],argTypes:= #[23,23]})
  (B:Nat) (v u:Value) (xs ys:List Int) (hs:a.eval s=v) (hx:a.eval x=u) (hown:ak 3 1 zK w B v xs) (hys:fH 1 zK w u ys) (hbig:xs.length+ys.length<100000000000) (hB:B<=w.heap.size)
  (h:∀v' w',ak 3 1 zK w' B v' (xs++ys)->w.grownBy w' v.ownBlock->(v'.ownBlock=v.ownBlock\/v'.ownBlock=some w.heap.size)->K (a.put o.dst v') w'):
  if Region.wanted o (yielded ops a.tmps)=true then Oper.wp Tryz.prog o a w K Q else E:=
 Tv (α:=Int) (k:=1) (en:=zK) hg s x _ ho jE OC _ 8 Tryz.underlying23 Du rfl (by decide) (by decide) B v u xs ys hs hx hown hys hbig hB h
theorem sN(w:World)(x:Int){m:Nat}(hm:m=w.heap.size):fH 1 zK (w.alloc (.cells #[.int .i64 x] 3)) (.slice (some ⟨m,0,none⟩) 1 1) [x]:=jC w x _ rfl _ hm
theorem lV{W:World}{v:Value}{zs:List Int}(h:fH 1 oG W v zs)(h0:0<W.heap.size)(hl:zs.length<1000000000000):aN W v zs:=by
 obtain⟨ad,b,off,cap,rfl,h1,h2,h3,h4,h5,h6⟩:=h.form
 rcases Nat.eq_zero_or_pos zs.length with hz|hz
 ·have:zs=[]:=List.eq_nil_of_length_eq_zero hz
  subst this
  exact⟨ad,0,0,cap,rfl,⟨λh=>by simp at h,h2⟩,Nat.zero_le _,⟨h4,hl⟩,h0,bC.none _ _ _ _⟩
 ·have:=h1 hz
  subst this
  refine⟨_,b,off,cap,rfl,⟨λ_=>rfl,h2⟩,h3,⟨h4,hl⟩,h5 hz,jH λi hi=> ?_⟩
  have h7:=h6.at (i:=i) (x:=zs[i]) (List.getElem?_eq_getElem hi) 0 (.int .u64 zs[i]) rfl
  rw[show b=b from rfl]at h7
  simpa [List.getD,hi]using h7
theorem dX{W:World}{v:Value}{zs:List Int}(h:aN W v zs):fH 1 oG W v zs:=by
 obtain⟨ad,b,off,cap,rfl,⟨h1,h2⟩,h3,⟨h4,h4'⟩,h5,h6⟩:=h
 refine fH.mk (ad:=ad) (b:=b) (off:=off) (cap:=cap) rfl h1 h2 h3 h4 (λ_=>h5) λi j x y hx hy=> ?_
 have hi:i<zs.length:=by
  rcases Nat.lt_or_ge i zs.length with h|h
  ·exact h
  ·rw[List.getElem?_eq_none h]at hx;cases hx
 have hj:j=0:=by
  rcases j with _|j
  ·rfl
  ·simp[oG]at hy
 subst hj
 have hy:Value.int .u64 x=y:=by simpa [oG]using hy
 rw[Nat.mul_one,Nat.add_zero,h6.at i hi,<-hy]
 rw[List.getElem?_eq_getElem hi]at hx
 cases hx
 simp[List.getD,hi]
end Go.Proofs.YtpgjploaliefdaaGreat.lx
