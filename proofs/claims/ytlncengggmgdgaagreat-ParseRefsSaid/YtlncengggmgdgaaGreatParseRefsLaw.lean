/- The statement Rows.ParseRefsSaid (cromlech/cromlechlaw19.ParseRefs), out of its walk. Conditions: none but the statement's own. -/
import Derived.Test.YtlncengggmgdgaaGreatRows
import Derived.Test.YtlncengggmgdgaaGreatYq
import Derived.Test.YtlncengggmgdgaaGreatLm
import Derived.WalkKit
import Derived.ProofKit
import Derived.OpenShut
import Derived.ShutString
import Derived.ChangeOld
import Derived.Below
import Derived.Lib.SmallJoins
import Derived.Conc.HoldsTime
set_option linter.unusedVariables false
set_option linter.unusedSimpArgs false
set_option maxRecDepth 100000
namespace Go.Proofs.YtlncengggmgdgaaGreat.parseRefsLaw
open Go.Proofs.YtlncengggmgdgaaGreat par
open Go Go.ChangeShapes Go.WideShapes Go.ChangeAt Go.RowKit Go.Joins Go.Conc Go.ConcM
open Go.ChangeMaps (open_string shut_string)
attribute [local irreducible] par.ah
theorem own:ownKnob Tryz.prog.godebug=none:=by kernel_rfl
theorem laidOut:laidOutB Tryz.prog=true:=by kernel_rfl
theorem aeJ:¬Sp 4:=by unfold Sp;decide
theorem abI:Both (dP Hm) Tryz.prog.funcs 4:=⟨_,_,_,_,(fM (H:=Hm))▸(show(ah Hm).funcs[4]? =some Tryz.f4 from WC (H:=Hm)),Tryz.func4,rfl,rfl⟩
theorem lifted(os:Os)(started:os.Started)(H:Type)(enc:TypeId×Value->H)(SF:Stop.Interp):
  ReturnsInLeavingWide Rows.parseRefsRow.assume Tryz.checked os 4 .any (Rows.parseRefsSpec.pre6 enc Tryz.prog Tryz.f4 Rows.parseRefsRow.domain false) ((OpenSpec.ofChange Rows.parseRefsSpec).postWith enc Tryz.prog Tryz.f4 SF (outsideKept [.timePasses]) false true false):=by
 refine returnsInLeavingWide_of_change_time (C:=Tryz.checked) own started Tryz.func4
  (ChangeSpec.witness6c (enc:=enc) (C:=Tryz.checked) ⟨#[],#[.slice none 0 0,.int .i64 0,.int .u64 0],[]⟩ 8 (by kernel_rfl) (by kernel_rfl) (by kernel_rfl) (by kernel_rfl)) ?_
 intro W base args ds gs before hval0 hW _ _ _
 have hval:∀(j:Nat)t v,Tryz.f4.params[j]? =some t->args[j]? =some v->Value.okWide Tryz.prog W .any base t v:=hval0
 have hW':=hW
 obtain⟨p,q,hA0,hV,rfl,hfz,hnd⟩:=hW
 have hA:DataW.TrodAll enc Tryz.prog W 0 (λ_=>true) true Tryz.f4.params.toList args.toList ds p:=hA0
 rw[Tryz.params4]at hA hval
 obtain⟨v0,vs0,d0,ds0,p0,q0',hargs,rfl,rfl,h0,r0⟩:=trodAll_cons hA
 obtain⟨v1,vs1,d1,ds1,p1,q1',rfl,rfl,rfl,h1,r1⟩:=trodAll_cons r0
 obtain⟨v2,vs2,d2,ds2,p2,q2',rfl,rfl,rfl,h2,r2⟩:=trodAll_cons r1
 obtain⟨rfl,rfl,rfl⟩:=trodAll_nil r2
 obtain rfl:args= #[v0,v1,v2]:=by cases args;simp_all
 obtain⟨rfl,rfl⟩:=trodVars_none hV
 have k0:=h0
 have lt0:∀x∈p0,x.block<W.heap.size:=by obtain⟨m,hm⟩:=k0;exact DataW.trod_lt m _ _ _ hm
 have k1:=h1
 have lt1:∀x∈p1,x.block<W.heap.size:=by obtain⟨m,hm⟩:=k1;exact DataW.trod_lt m _ _ _ hm
 have k2:=h2
 have lt2:∀x∈p2,x.block<W.heap.size:=by obtain⟨m,hm⟩:=k2;exact DataW.trod_lt m _ _ _ hm
 have q0:=lm.YH Tryz.underlying32 (hval 0 32 v0 rfl rfl)
 have q1:=lm.YG Tryz.underlying3 (hval 1 3 v1 rfl rfl)
 have q2:=lm.YG Tryz.underlying24 (hval 2 24 v2 rfl rfl)
 have hvr:=lm.aeI (W:=W) (args:= #[v0,v1,v2]) (λv hv=>by simp at hv;rcases hv with rfl|rfl|rfl<;>assumption)
 clear q0 q1 q2
 obtain⟨a0,w0,x0⟩:=lx.XE Tryz.underlying32 Tryz.underlying24 (by kernel_rfl) (hval 0 32 v0 rfl rfl) h0
 obtain⟨a1,rfl,rfl,rfl,w1⟩:=open_int Tryz.underlying3 (hval 1 3 v1 rfl rfl) h1
 obtain⟨a2,rfl,rfl,rfl,w2⟩:=open_int Tryz.underlying24 (hval 2 24 v2 rfl rfl) h2
 clear hA0 hval0
 obtain⟨M,last,o,w',t',r1,r2,r3,v,e,⟨rfl,bel⟩,g1,g2,g3,g4⟩:=Xj Tryz.func4 Tryz.results4 (WC (H:=Hm)) Tryz.results4 (by kernel_rfl) aeJ abI (Nat.zero_le _) hvr aaG Xk (λτ=>by
  have h:=aw.Uz v0 a0 a1 a2 (tp (iD W) τ) (lm.UA w0 lm.abH τ) x0 (aaB w1) (Qj w2)
  have e:(tp (iD W) τ).heap.size=W.heap.size:=kM W
  rw[e]at h
  exact h)
 refine⟨M,last,o,w',t',r1,r2,r3,_,e,⟨?_,by rw[bel.os];exact OsLater.refl _⟩,g1,g2,g3,g4⟩
 have bel2:Below W.heap.size W {w' with os:=W.os}:=⟨rfl,bel.tape,bel.output,bel.size,bel.block⟩
 exact⟨_,_,_,[],_,[],hW',trodAll_mk1 (shut_bool Tryz.underlying4 _),(trodAll_cons_mk (Below.trod laidOut (by kernel_rfl) (of_decide_eq_true (by kernel_rfl)) k0 bel2 lt0) (trodAll_cons_mk (Below.trod laidOut (by kernel_rfl) (of_decide_eq_true (by kernel_rfl)) k1 bel2 lt1) (trodAll_cons_mk (Below.trod laidOut (by kernel_rfl) (of_decide_eq_true (by kernel_rfl)) k2 bel2 lt2) trodAll_mk0))),rfl,bel2.frame _,λh=>by cases h⟩
theorem over:Rows.parseRefsRow.holds Tryz.pinned (OpenSpec.ofChange Rows.parseRefsSpec):=
 OpenClaim.holds_of_wide_leaving_time 4 Tryz.f4 rfl rfl rfl rfl rfl rfl rfl ⟨rfl,rfl,rfl,rfl,rfl⟩ rfl rfl rfl rfl rfl (by kernel_rfl) Tryz.func4 (by kernel_rfl)
  (of_decide_eq_true (by kernel_rfl)) (by unfold Func.isWrapper;first|(rw[if_pos (by decide+kernel)];kernel_rfl)|(rw[if_neg (by decide+kernel)];exact⟨rfl,rfl⟩))
  (λos started H enc _ SF=>lifted os started H enc SF)
theorem proved:Rows.ParseRefsSaid:=over
end Go.Proofs.YtlncengggmgdgaaGreat.parseRefsLaw
