/- A leaving row's arguments, in the given world and in the clean one. No conditions. -/
import Derived.Test.YtlncengggmgdgaaGreatLx
import Derived.Test.YtlncengggmgdgaaGreatG22
import Derived.Conc.HoldsTime
set_option linter.unusedVariables false
set_option linter.unusedSimpArgs false
namespace Go.Proofs.YtlncengggmgdgaaGreat.lm
open Go.ChangeShapes Go.WideShapes Go.ChangeAt Go.RowKit Go.Joins gr par lx
theorem abG(w:World)(τ:Nat->Question->Nat)(a:Addr):(tp w τ).cell? a=w.cell? a:=rfl
theorem UA{α:Type}{k:Nat}{en:α->List Value}{W:World}{v:Value}{zs:List α}(h:jc k en W v zs)(hen:∀x,∀y∈en x,∀f,kX f y=y)(τ:Nat->Question->Nat):jc k en (tp (iD W) τ) v zs:=by
 obtain⟨ad,b,off,cap,rfl,h1,h2,h3,h4,h5,h6⟩:=h.form
 refine jc.mk (ad:=ad) (b:=b) (off:=off) (cap:=cap) rfl h1 h2 h3 h4 (λh0=>by show b<(iD W).heap.size;rw[kM];exact h5 h0) λi j x y hx hy=> ?_
 have hlt:0<zs.length:=by
  rcases Nat.lt_or_ge i zs.length with h|h
  ·omega
  ·rw[List.getElem?_eq_none h]at hx;cases hx
 have:=h1 hlt
 subst this
 rw[abG]
 exact N9 (h6.at hx j y hy) (hen x y (List.mem_of_getElem? hy) _)
theorem abH:∀x,∀y∈nH x,∀f,kX f y=y:=by
 intro x y hy f
 obtain rfl:=List.mem_singleton.1 hy
 unfold kX
 rfl
theorem YG{P:Program}{W:World}{base:Nat}{t:TypeId}{v:Value}{k:IntKind}(hu:P.underlying t=some (.int k))(h:Value.okWide P W .any base t v):VR id (Dz W) v v:=by
 unfold Value.okWide at h;simp only[hu]at h;unfold Cell.okWide at h;simp only[hu]at h;exact ab1 h
theorem YH{P:Program}{W:World}{base:Nat}{t e:TypeId}{v:Value}(hu:P.underlying t=some (.slice e))(h:Value.okWide P W .any base t v):VR id (Dz W) v v:=by
 unfold Value.okWide at h;simp only[hu]at h;unfold Cell.okWide at h;simp only[hu]at h;exact ab1 h
theorem aeI{W:World}{args:Array Value}(h:∀v∈args.toList,VR id (Dz W) v v):dI id (Dz W) args args:=⟨rfl,λi x y hx hy=>by
 rw[hx]at hy
 cases hy
 exact h x (by rw[<-Array.getElem?_toList]at hx;exact List.mem_of_getElem? hx)⟩
end Go.Proofs.YtlncengggmgdgaaGreat.lm
