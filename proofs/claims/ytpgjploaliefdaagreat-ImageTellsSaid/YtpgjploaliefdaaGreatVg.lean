/- Layer 18: ImageTells: what comes in, what the laws of words make. No conditions. -/
import Derived.Test.YtpgjploaliefdaaGreatLx
import Derived.Test.YtpgjploaliefdaaGreatG09
namespace Go.Proofs.YtpgjploaliefdaaGreat.ob
open Go.ChangeShapes Go.WideShapes Go.ChangeAt Go.RowKit Go.Joins gr lx
set_option linter.unusedVariables false
set_option linter.unusedSimpArgs false
set_option maxRecDepth 100000
section
variable {H : Type} {enc : TypeId × Value → H} {w : World} {base : Nat} {spare : Nat → Bool} {held : Bool}
theorem Fg{n:Nat}{cs:List Value}{y:DataW H×List MemPlace}(h:DataW.trod enc Tryz.prog w base spare held n 56 cs=some y):
  ∃s p:Int,cs=[.int .i64 s,.int .i64 p]/\True:=by
 obtain⟨y0,y1,m,rfl,hl,h0,h1⟩:=trod_struct2 Tryz.underlying56 h
 have hC:Program.cellsOf Tryz.prog 56=2:=by kernel_rfl
 have hi:Program.cellsOf Tryz.prog 3=1:=by kernel_rfl
 rw[hC]at hl
 match cs,hl with
 |[c0,c1],_=>
  have h0':DataW.trod enc Tryz.prog w base spare held m 3 (([c0,c1].drop 0).take (Program.cellsOf Tryz.prog 3))=some y0:=h0
  have h1':DataW.trod enc Tryz.prog w base spare held m 3 (([c0,c1].drop 1).take (Program.cellsOf Tryz.prog 3))=some y1:=h1
  rw[hi]at h0' h1'
  simp only[List.drop_zero,List.drop_succ_cons,List.take_succ_cons,List.take_zero]at h0' h1'
  obtain⟨a0,e0,_,w0⟩:=DataW.trod_int Tryz.underlying3 h0'
  obtain⟨a1,e1,_,w1⟩:=DataW.trod_int Tryz.underlying3 h1'
  simp at e0 e1
  subst e0 e1
  exact⟨a0,a1,rfl,trivial⟩
theorem Ny{n:Nat}{cs:List Value}{y:DataW H×List MemPlace}(h:DataW.trod enc Tryz.prog w base spare held n 58 cs=some y):
  ∃o:Ob,cs=dG o/\(dG o).length=5/\(0<=o.t/\o.t<18446744073709551616):=by
 obtain⟨y0,y1,y2,y3,m,rfl,hl,h0,h1,h2,h3⟩:=trod_struct4 Tryz.underlying58 h
 have hC:Program.cellsOf Tryz.prog 58=5:=by kernel_rfl
 have hi:Program.cellsOf Tryz.prog 3=1:=by kernel_rfl
 have hs:Program.cellsOf Tryz.prog 56=2:=by kernel_rfl
 have hb:Program.cellsOf Tryz.prog 4=1:=by kernel_rfl
 have hu:Program.cellsOf Tryz.prog 24=1:=by kernel_rfl
 rw[hC]at hl
 match cs,hl with
 |[c0,c1,c2,c3,c4],_=>
  have h0':DataW.trod enc Tryz.prog w base spare held m 3 (([c0,c1,c2,c3,c4].drop 0).take (Program.cellsOf Tryz.prog 3))=some y0:=h0
  have h1':DataW.trod enc Tryz.prog w base spare held m 56 (([c0,c1,c2,c3,c4].drop 1).take (Program.cellsOf Tryz.prog 56))=some y1:=h1
  have h2':DataW.trod enc Tryz.prog w base spare held m 4 (([c0,c1,c2,c3,c4].drop 3).take (Program.cellsOf Tryz.prog 4))=some y2:=h2
  have h3':DataW.trod enc Tryz.prog w base spare held m 24 (([c0,c1,c2,c3,c4].drop 4).take (Program.cellsOf Tryz.prog 24))=some y3:=h3
  rw[hi]at h0'
  rw[hs]at h1'
  rw[hb]at h2'
  rw[hu]at h3'
  simp only[List.drop_zero,List.drop_succ_cons,List.take_succ_cons,List.take_zero]at h0' h1' h2' h3'
  obtain⟨a0,e0,_,w0⟩:=DataW.trod_int Tryz.underlying3 h0'
  obtain⟨s,p,e1,_⟩:=Fg h1'
  obtain⟨b3,e2,_⟩:=DataW.trod_bool Tryz.underlying4 h2'
  obtain⟨a4,e3,_,w4⟩:=DataW.trod_int Tryz.underlying24 h3'
  simp at e0 e1 e2 e3
  obtain⟨rfl,rfl⟩:=e1
  subst e0 e2 e3
  exact⟨⟨a0,s,p,b3,a4⟩,rfl,rfl,wZ w4⟩
theorem VW{r:Reach}{b0:Nat}{v:Value}{d:DataW H}{p:List MemPlace}(hv:Value.okWide Tryz.prog w r b0 28 v)(h:DataW.Trod enc Tryz.prog w base spare held 28 v d p):
  ∃l:List Ob,fH 5 dG w v l/\∀o∈l,0<=o.t/\o.t<18446744073709551616:=
 CW Tryz.underlying28 (by kernel_rfl) (by omega) (λn cs y h=>Ny h) hv h
end
theorem RP{W:World}{ad:Option Addr}{n c:Nat}{zs:List Ob}(h:fH 5 dG W (.slice ad n c) zs)(k:Nat)(hk:k<=n)(h0:0<W.heap.size)(hs:k<1000000000000):bT W (.slice ad k c) (zs.take k):=by
 obtain⟨ad',b,off,cap,e,h1,h2,h3,h4,h5,h6⟩:=h.form
 cases e
 have hl:(zs.take k).length=k:=by simp;omega
 rcases Nat.eq_zero_or_pos k with hz|hz
 ·subst hz
  exact⟨ad,0,0,c,by rw[hl],⟨λh=>by simp at h,h2⟩,by simp,⟨h4,by simp⟩,h0,by simpa using ig.none _ _ _ _⟩
 ·have:=h1 (by omega)
  subst this
  refine⟨_,b,off,c,by rw[hl],⟨λ_=>rfl,λe=>by cases e⟩,by omega,⟨h4,by omega⟩,h5 (by omega),ig.of λi hi=> ?_⟩
  rw[hl]at hi
  have hiz:i<zs.length:=by omega
  have h7:=h6.at (i:=i) (x:=zs[i]) (List.getElem?_eq_getElem hiz)
  have h8:dL (zs.take k) i=zs[i]:=by simp[dL,List.getD,hi,hiz]
  rw[h8]
  have h9:=h7 0 _ rfl
  rw[Nat.add_zero]at h9
  exact⟨h9,h7 1 _ rfl,h7 2 _ rfl,h7 3 _ rfl,h7 4 _ rfl⟩
end Go.Proofs.YtpgjploaliefdaaGreat.ob
