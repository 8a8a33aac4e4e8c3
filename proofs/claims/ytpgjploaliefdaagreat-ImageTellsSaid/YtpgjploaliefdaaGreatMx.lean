/- Layer 18: ImageLong. No conditions. -/
import Derived.Test.YtpgjploaliefdaaGreatMu
import Derived.Test.YtpgjploaliefdaaGreatG07
import Derived.Test.YtpgjploaliefdaaGreatG22
namespace Go.Proofs.YtpgjploaliefdaaGreat.im
open Go Go.RowKit hp ob hd cp ck gr lx rh
open fr (eH)
set_option linter.unusedVariables false
set_option linter.unusedSimpArgs false
set_option maxRecDepth 100000
set_option maxHeartbeats 4000000
theorem WA{W:World}{h:Hp}{v:Hv}(a:kH W h v):∃la lc ha hc oa oc fa fc ra rc,v=⟨.slice la h.low.length lc,.slice ha h.high.length hc,.slice oa h.old.length oc,.slice fa h.far.length fc,.slice ra h.roots.length rc⟩:=by
 obtain⟨vl,vh,vo,vf,vr⟩:=v
 obtain⟨_,_,_,_,h1,h2,h3,h4,h5,_,_,_,_,_⟩:=a
 obtain⟨_,_,_,_,e1,_⟩:=(dX h1).form
 obtain⟨_,_,_,_,e2,_⟩:=(dX h2).form
 obtain⟨_,_,_,_,e3,_⟩:=(dX h3).form
 obtain⟨_,_,_,_,e4,_⟩:=(dX h4).form
 obtain⟨_,_,_,_,e5,_⟩:=(dX h5).form
 exact⟨_,_,_,_,_,_,_,_,_,_,by rw[Hv.mk.injEq];exact⟨e1,e2,e3,e4,e5⟩⟩
theorem acd(X:Xv)(x:Rh)(w:World)(hx:Qq w X x):Calls Tryz.prog 7 #[.agg (gG X x)] w λe w'=>(∃la lc ha hc oa oc fa fc ra rc,e=.returned (fD (gK x) ⟨.slice la (gK x).low.length lc,.slice ha (gK x).high.length hc,.slice oa (gK x).old.length oc,.slice fa (gK x).far.length fc,.slice ra (gK x).roots.length rc⟩)/\kH w' (gK x) ⟨.slice la (gK x).low.length lc,.slice ha (gK x).high.length hc,.slice oa (gK x).old.length oc,.slice fa (gK x).far.length fc,.slice ra (gK x).roots.length rc⟩)/\Below w.heap.size w w':=by
 refine(KU X x w hx).mono ?_
 rintro e w' ⟨⟨l,h,o,f,r,rfl,hu⟩,hb⟩
 have hin:=hu.now
 obtain⟨la,lc,ha,hc,oa,oc,fa,fc,ra,rc,ev⟩:=WA hin
 rw[ev]at hin⊢
 exact⟨⟨la,lc,ha,hc,oa,oc,fa,fc,ra,rc,rfl,hin⟩,hb⟩
end Go.Proofs.YtpgjploaliefdaaGreat.im
