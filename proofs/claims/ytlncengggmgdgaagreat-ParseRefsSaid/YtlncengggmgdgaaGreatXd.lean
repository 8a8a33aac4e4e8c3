/- The mutex's Lock and Unlock in company, on a block of one's own. No conditions. (under way) -/
import Derived.Test.YtlncengggmgdgaaGreatXc
import Derived.Test.YtlncengggmgdgaaGreatG14
set_option linter.unusedVariables false
set_option linter.unusedSimpArgs false
set_option maxRecDepth 100000
namespace Go.Proofs.YtlncengggmgdgaaGreat.par
open Go Go.Conc Go.RowKit Go.Conc.Lib Go.ConcR.Gen Go.ConcN.Gen
open Go.ConcR (rd wr mk DC0)
section
variable {P : Program} {main : Bool} {I : World → Prop} {b : Frame} {k : List Item} {cs : List Frame} {S : Goroutine → World → Prop}
def M3(P:Program)(main:Bool)(I:World->Prop)(e:Event)(S:Goroutine->World->Prop)(g:Goroutine)(w:World):Prop:=
 g.status=.running/\∃g',stepG P main g w=.go g' w #[e]/\∃m,dw P main I DC0 S m g'
def MC(P:Program)(main:Bool)(I:World->Prop)(ad:Addr)(x y:Int)(S:Goroutine->World->Prop)(g:Goroutine)(w:World):Prop:=
 g.status=.running/\(w.cell? ad=some (.int .i32 x)->w.frozen? ad=false->∃g',stepG P main g w=.go g' (w.setCell ad (.int .i32 y)) #[rd ad,wr ad]/\∃m,dw P main I DC0 S m g')
noncomputable def zq:Code:=Tryz.f201.body.getD .skip
noncomputable def zu:Array Oper:=match zq with| .seq _ (.seq (.seq (.region _ o _) _) _)=>o|_=> #[]
noncomputable def uQ:Code:=match zq with| .seq _ (.seq (.seq _ c) _)=>c|_=>.skip
noncomputable def Ci:Code:=match zq with| .seq _ (.seq _ c)=>c|_=>.skip
theorem Zr{T:Array Value}(hk:b.kind≠ .early)(h:∃m,dw Tryz.prog main I DC0 S m (G (b.at ⟨T.setIfInBounds 2 (.tuple #[]),[]⟩ [.code (.seq (.seq (.region 1 zu false) uQ) Ci)]) cs)):
  dw Tryz.prog main I DC0 (M3 Tryz.prog main I (mk .disable) S) 5 (G (b.at ⟨T,[]⟩ [.code zq]) cs):=by
 have e:zq=.seq (.region 0 #[⟨some 2,.call {callee:=.value (.func 151),args:= #[],argTypes:= #[]},0,"mutex.go:62",#[],none⟩] false) (.seq (.seq (.region 1 zu false) uQ) Ci):=by kernel_rfl
 rw[e]
 apply bn
 apply gi_region
 obtain⟨m,hm⟩:=h
 refine dw.halt λw _=>⟨rfl,_,stepG_mark0 .disable (by simp) rfl rfl hk rfl wgLib.f_disable (x_disable_n link) (x_disable_b link) (x_disable_x link) (x_disable_f link),m+1,?_⟩
 exact aI hm
theorem dn{T:Array Value}{i j:Nat}{v:Value}(h:j<T.size):(T.setIfInBounds i v)[j]?.getD undef=if i=j then v else T[j]?.getD undef:=by
 by_cases e:i=j
 ·subst e;simp[Array.getElem?_setIfInBounds,h]
 ·rw[Array.getElem?_setIfInBounds_ne e,if_neg e]
theorem RV{I':World->Prop}{T:Array Value}{ad:Addr}(hk:b.kind≠ .early)(hT:13<=T.size)(h0:T[0]?.getD undef=.pointer (some ad))
  (h:∀T':Array Value,13<=T'.size->T'[0]?.getD undef=.pointer (some ad)->T'[6]?.getD undef=.bool true->∃m,dw Tryz.prog main I' DC0 S m (G (b.at ⟨T',[]⟩ [.code uQ,.code Ci]) cs)):
  dw Tryz.prog main I DC0 (MC Tryz.prog main I' ad 0 1 S) 10 (G (b.at ⟨T,[]⟩ [.code (.seq (.seq (.region 1 zu false) uQ) Ci)]) cs):=by
 have e0:zu[0]? =some ⟨some 3,.move (.tmp 0),274,"mutex.go:64",#[],none⟩:=by kernel_rfl
 have e1:zu[1]? =some ⟨some 4,.nilCheck (.tmp 3),0,"mutex.go:64",#[⟨0,.data⟩],none⟩:=by kernel_rfl
 have e2:zu[2]? =some ⟨some 5,.fieldAddr 257 (.tmp 4) 0,0,"mutex.go:64",#[⟨1,.data⟩],none⟩:=by kernel_rfl
 have e3:zu[3]? =some ⟨some 6,.call {callee:=.value (.func 205),args:= #[.tmp 5,.const (.int .i32 0),.const (.int .i32 1)],argTypes:= #[276,21,21]},4,"mutex.go:64",#[⟨2,.data⟩],none⟩:=by kernel_rfl
 have es:List.range zu.size=[0,1,2,3]:=by kernel_rfl
 have ha:ad.add 0=ad:=by unfold Addr.add;simp
 apply bn
 apply bn
 apply gi_region
 rw[es]
 refine aH (v:=.pointer (some ad)) e0 rfl hk (λw _=>by simp[execOp,Act.eval,h0]) (λw _=>by simp[execOp,Act.eval,h0,go_sem]) ?_
 have g3:(T.setIfInBounds 3 (.pointer (some ad)))[3]?.getD undef=.pointer (some ad):=by rw[dn (by omega)];rfl
 refine aH (v:=.pointer (some ad)) e1 rfl hk (λw _=>by simp[execOp,Act.eval,Act.put,g3]) (λw _=>by simp[execOp,Act.eval,Act.put,g3,go_sem]) ?_
 have g4:((T.setIfInBounds 3 (.pointer (some ad))).setIfInBounds 4 (.pointer (some ad)))[4]?.getD undef=.pointer (some ad):=by rw[dn (by simp;omega)];rfl
 refine aH (v:=.pointer (some ad)) e2 rfl hk (λw _=>by simp[execOp,Act.eval,Act.put,g4,Instr.fieldAt,Instr.sureAddr,go_sem,ha]) (λw _=>by simp[execOp,Act.eval,Act.put,g4,Instr.fieldAt,Instr.sureAddr,go_sem,ha]) ?_
 refine dw.halt λw _=>⟨rfl,λhc hz=> ?_⟩
 obtain⟨m,hm⟩:=h (((((T.setIfInBounds 3 (.pointer (some ad))).setIfInBounds 4 (.pointer (some ad))).setIfInBounds 5 (.pointer (some ad))).setIfInBounds 6 (.bool true))) (by simpa using hT) (by rw[dn (by simp;omega),dn (by simp;omega),dn (by simp;omega),dn (by omega)];exact h0) (by rw[dn (by simp;omega)];rfl)
 refine⟨_,(stepG_cas_hit (v:=0) (n:=1) e3 rfl hk rfl Tryz.func205 (by kernel_rfl) (by kernel_rfl) (by kernel_rfl) .i32 (by kernel_rfl) ?_ rfl rfl hc hz).trans rfl,m+1,aI hm⟩
 simp only[Act.eval,Act.put]
 rw[Array.getD_eq_getD_getElem?,dn (by simp;omega)]
 rfl
def EU(b:Frame)(cs:List Frame)(g:Goroutine):Prop:=∃T' todo,g=G {b.at ⟨T',[]⟩ todo with mode:=.returning} cs
noncomputable def JG:Array Oper:=match uQ with| .cond _ (.seq (.cond _ (.seq _ (.region _ o _)) _) _) _=>o|_=> #[]
theorem V7{T:Array Value}{ad:Addr}(hk:b.kind≠ .early)(hI:∀w,I w->∃v,w.cell? ad=some v)(hT:13<=T.size)(h0:T[0]?.getD undef=.pointer (some ad))(h6:T[6]?.getD undef=.bool true):
  dw Tryz.prog main I DC0 (M3 Tryz.prog main I (mk .enable) (M3 Tryz.prog main I (mk (.acquire ad)) (λg _=>EU b cs g))) 10 (G (b.at ⟨T,[]⟩ [.code uQ,.code Ci]) cs):=by
 have e:uQ=.cond (.tmp 6) (.seq (.cond (.const (.bool true)) (.seq (.region 2 #[⟨some 7,.call {callee:=.value (.func 152),args:= #[],argTypes:= #[]},0,"mutex.go:66",#[],none⟩] false) (.region 3 JG false)) .skip) .ret) .skip:=by kernel_rfl
 have e0:JG[0]? =some ⟨some 8,.move (.tmp 0),274,"mutex.go:66",#[],none⟩:=by kernel_rfl
 have e1:JG[1]? =some ⟨some 9,.convert 274 188 (.tmp 8),188,"mutex.go:66",#[⟨0,.data⟩],none⟩:=by kernel_rfl
 have e2:JG[2]? =some ⟨some 10,.call {callee:=.value (.func 166),args:= #[.tmp 9],argTypes:= #[188]},0,"mutex.go:66",#[⟨1,.data⟩],none⟩:=by kernel_rfl
 have es:List.range JG.size=[0,1,2]:=by kernel_rfl
 rw[e]
 refine aY (t:=true) (by simp[Act.eval,h6]) ?_
 rw[if_pos rfl]
 apply bn
 refine aY (t:=true) rfl ?_
 rw[if_pos rfl]
 apply bn
 apply gi_region
 refine dw.halt λw _=>⟨rfl,_,stepG_mark0 .enable (by simp) rfl rfl hk rfl wgLib.f_enable (x_enable_n link) (x_enable_b link) (x_enable_x link) (x_enable_f link),10,?_⟩
 apply aI
 apply gi_region
 rw[es]
 have g0:(T.setIfInBounds 7 (.tuple #[]))[0]?.getD undef=.pointer (some ad):=by rw[dn (by omega)];exact h0
 refine aH (v:=.pointer (some ad)) e0 rfl hk (λw _=>by simp[execOp,Act.eval,Act.put,h0]) (λw _=>by simp[execOp,Act.eval,Act.put,h0,go_sem]) ?_
 have g8:((T.setIfInBounds 7 (.tuple #[])).setIfInBounds 8 (.pointer (some ad)))[8]?.getD undef=.pointer (some ad):=by rw[dn (by simp;omega)];rfl
 refine qg (t:=257) Tryz.underlying274 Tryz.underlying188 (by kernel_rfl) hI e1 rfl hk rfl (by simpa [Act.eval,Act.put]using g8) ?_
 have g9:(((T.setIfInBounds 7 (.tuple #[])).setIfInBounds 8 (.pointer (some ad))).setIfInBounds 9 (.pointer (some ad)))[9]?.getD undef=.pointer (some ad):=by rw[dn (by simp;omega)];rfl
 refine dw.halt λw _=>⟨rfl,_,stepG_markAt .acquire (by simp) e2 rfl hk rfl wgLib.f_acquire (x_acquire_n link) (x_acquire_b link) (x_acquire_x link) (x_acquire_f link) (ad:=ad) (by simpa [Act.eval,Act.put]using g9),5,?_⟩
 apply aI
 apply dM
 exact dw.halt λw _=>⟨_,_,rfl⟩
noncomputable def uG:Code:=Tryz.f202.body.getD .skip
noncomputable def EW:Array Oper:=match uG with| .seq (.cond _ (.seq (.region _ o _) _) _) _=>o|_=> #[]
noncomputable def JH:Array Oper:=match uG with| .seq (.cond _ (.seq _ (.seq (.region _ o _) _)) _) _=>o|_=> #[]
noncomputable def wU:Array Oper:=match uG with| .seq _ (.seq (.region _ o _) _)=>o|_=> #[]
noncomputable def EX:Array Oper:=match uG with| .seq _ (.seq _ (.seq (.seq (.region _ o _) _) _))=>o|_=> #[]
noncomputable def NG:Code:=match uG with| .seq _ (.seq _ (.seq (.seq _ (.cond _ c _)) _))=>c|_=>.skip
theorem V8:uG=.seq (.cond (.const (.bool true)) (.seq (.region 0 EW false) (.seq (.region 1 JH false) (.region 2 #[⟨some 10,.call {callee:=.value (.func 151),args:= #[],argTypes:= #[]},0,"mutex.go:195",#[],none⟩] false))) .skip)
  (.seq (.region 3 wU false) (.seq (.seq (.region 4 EX false) (.cond (.tmp 16) NG .skip)) (.region 6 #[⟨some 20,.call {callee:=.value (.func 152),args:= #[],argTypes:= #[]},0,"mutex.go:205",#[],none⟩] false))):=by kernel_rfl
theorem acQ(hb:b.fn=202)(ad:Addr):seen Tryz.prog b.fn #[⟨.cell ad,false,false⟩]= #[]:=by
 rw[hb]
 unfold seen
 simp[Tryz.func202,Tryz.f202]
theorem RX{T:Array Value}{ad:Addr}(hb:b.fn=202)(hk:b.kind≠ .early)(hI:∀w,I w->w.cell? ad=some (.int .i32 1))(hT:21<=T.size)(h0:T[0]?.getD undef=.pointer (some ad))
  (h:∀T':Array Value,21<=T'.size->T'[0]?.getD undef=.pointer (some ad)->∃m,dw Tryz.prog main I DC0 S m (G (b.at ⟨T',[]⟩ [.code (.seq (.region 3 wU false) (.seq (.seq (.region 4 EX false) (.cond (.tmp 16) NG .skip)) (.region 6 #[⟨some 20,.call {callee:=.value (.func 152),args:= #[],argTypes:= #[]},0,"mutex.go:205",#[],none⟩] false)))]) cs)):
  dw Tryz.prog main I DC0 (M3 Tryz.prog main I (mk (.releaseMerge ad)) (M3 Tryz.prog main I (mk .disable) S)) 20 (G (b.at ⟨T,[]⟩ [.code uG]) cs):=by
 have e0:EW[0]? =some ⟨some 3,.move (.tmp 0),274,"mutex.go:193",#[],none⟩:=by kernel_rfl
 have e1:EW[1]? =some ⟨some 4,.nilCheck (.tmp 3),0,"mutex.go:193",#[⟨0,.data⟩],none⟩:=by kernel_rfl
 have e2:EW[2]? =some ⟨some 5,.fieldAddr 257 (.tmp 4) 0,0,"mutex.go:193",#[⟨1,.data⟩],none⟩:=by kernel_rfl
 have e3:EW[3]? =some ⟨some 6,.load 21 (.tmp 5),21,"mutex.go:193",#[⟨2,.data⟩],none⟩:=by kernel_rfl
 have es:List.range EW.size=[0,1,2,3]:=by kernel_rfl
 have f0:JH[0]? =some ⟨some 7,.move (.tmp 0),274,"mutex.go:194",#[],none⟩:=by kernel_rfl
 have f1:JH[1]? =some ⟨some 8,.convert 274 188 (.tmp 7),188,"mutex.go:194",#[⟨0,.data⟩],none⟩:=by kernel_rfl
 have f2:JH[2]? =some ⟨some 9,.call {callee:=.value (.func 150),args:= #[.tmp 8],argTypes:= #[188]},0,"mutex.go:194",#[⟨1,.data⟩],none⟩:=by kernel_rfl
 have fs:List.range JH.size=[0,1,2]:=by kernel_rfl
 have ha:ad.add 0=ad:=by unfold Addr.add;simp
 rw[V8]
 apply bn
 refine aY (t:=true) rfl ?_
 rw[if_pos rfl]
 apply bn
 apply gi_region
 rw[es]
 refine aH (v:=.pointer (some ad)) e0 rfl hk (λw _=>by simp[execOp,Act.eval,h0]) (λw _=>by simp[execOp,Act.eval,h0,go_sem]) ?_
 show dw _ _ _ _ _ _ (G (b.at ⟨T.setIfInBounds 3 (.pointer (some ad)),[]⟩ _) _)
 have s1:21<=(T.setIfInBounds 3 (.pointer (some ad))).size:=by simpa using hT
 have z1:(T.setIfInBounds 3 (.pointer (some ad)))[0]?.getD undef=.pointer (some ad):=by rw[dn (by omega)];exact h0
 have g1:(T.setIfInBounds 3 (.pointer (some ad)))[3]?.getD undef=.pointer (some ad):=by rw[dn (by omega)];rfl
 generalize T.setIfInBounds 3 (.pointer (some ad))=T1 at s1 z1 g1⊢
 refine aH (v:=.pointer (some ad)) e1 rfl hk (λw _=>by simp[execOp,Act.eval,g1]) (λw _=>by simp[execOp,Act.eval,g1,go_sem]) ?_
 show dw _ _ _ _ _ _ (G (b.at ⟨T1.setIfInBounds 4 (.pointer (some ad)),[]⟩ _) _)
 have s2:21<=(T1.setIfInBounds 4 (.pointer (some ad))).size:=by simpa using s1
 have z2:(T1.setIfInBounds 4 (.pointer (some ad)))[0]?.getD undef=.pointer (some ad):=by rw[dn (by omega)];exact z1
 have g2:(T1.setIfInBounds 4 (.pointer (some ad)))[4]?.getD undef=.pointer (some ad):=by rw[dn (by omega)];rfl
 generalize T1.setIfInBounds 4 (.pointer (some ad))=T2 at s2 z2 g2⊢
 refine aH (v:=.pointer (some ad)) e2 rfl hk (λw _=>by simp[execOp,Act.eval,g2,Instr.fieldAt,Instr.sureAddr,go_sem,ha]) (λw _=>by simp[execOp,Act.eval,g2,Instr.fieldAt,Instr.sureAddr,go_sem,ha]) ?_
 show dw _ _ _ _ _ _ (G (b.at ⟨T2.setIfInBounds 5 (.pointer (some ad)),[]⟩ _) _)
 have s3:21<=(T2.setIfInBounds 5 (.pointer (some ad))).size:=by simpa using s2
 have z3:(T2.setIfInBounds 5 (.pointer (some ad)))[0]?.getD undef=.pointer (some ad):=by rw[dn (by omega)];exact z2
 have g3:(T2.setIfInBounds 5 (.pointer (some ad)))[5]?.getD undef=.pointer (some ad):=by rw[dn (by omega)];rfl
 generalize T2.setIfInBounds 5 (.pointer (some ad))=T3 at s3 z3 g3⊢
 refine sZ (v:=.int .i32 1) e3 rfl hk (λw hw=>by simp[execOp,Act.eval,g3,Instr.loadAt,Instr.sureAddr,go_sem,hI w hw]) (λw hw=>by
  simp[execOp,Act.eval,g3,Instr.loadAt,Instr.sureAddr,go_sem,hI w hw]
  exact⟨rfl,acQ hb _⟩) ?_
 show dw _ _ _ _ _ _ (G (b.at ⟨T3.setIfInBounds 6 (.int .i32 1),[]⟩ _) _)
 have s4:21<=(T3.setIfInBounds 6 (.int .i32 1)).size:=by simpa using s3
 have z4:(T3.setIfInBounds 6 (.int .i32 1))[0]?.getD undef=.pointer (some ad):=by rw[dn (by omega)];exact z3
 generalize T3.setIfInBounds 6 (.int .i32 1)=T4 at s4 z4⊢
 apply aI
 apply bn
 apply gi_region
 rw[fs]
 refine aH (v:=.pointer (some ad)) f0 rfl hk (λw _=>by simp[execOp,Act.eval,z4]) (λw _=>by simp[execOp,Act.eval,z4,go_sem]) ?_
 show dw _ _ _ _ _ _ (G (b.at ⟨T4.setIfInBounds 7 (.pointer (some ad)),[]⟩ _) _)
 have s5:21<=(T4.setIfInBounds 7 (.pointer (some ad))).size:=by simpa using s4
 have z5:(T4.setIfInBounds 7 (.pointer (some ad)))[0]?.getD undef=.pointer (some ad):=by rw[dn (by omega)];exact z4
 have g5:(T4.setIfInBounds 7 (.pointer (some ad)))[7]?.getD undef=.pointer (some ad):=by rw[dn (by omega)];rfl
 generalize T4.setIfInBounds 7 (.pointer (some ad))=T5 at s5 z5 g5⊢
 refine qg (t:=257) Tryz.underlying274 Tryz.underlying188 (by kernel_rfl) (λw hw=>⟨_,hI w hw⟩) f1 rfl hk rfl (by simpa [Act.eval]using g5) ?_
 show dw _ _ _ _ _ _ (G (b.at ⟨T5.setIfInBounds 8 (.pointer (some ad)),[]⟩ _) _)
 have s6:21<=(T5.setIfInBounds 8 (.pointer (some ad))).size:=by simpa using s5
 have z6:(T5.setIfInBounds 8 (.pointer (some ad)))[0]?.getD undef=.pointer (some ad):=by rw[dn (by omega)];exact z5
 have g6:(T5.setIfInBounds 8 (.pointer (some ad)))[8]?.getD undef=.pointer (some ad):=by rw[dn (by omega)];rfl
 generalize T5.setIfInBounds 8 (.pointer (some ad))=T6 at s6 z6 g6⊢
 refine dw.halt λw _=>⟨rfl,_,stepG_markAt .releaseMerge (by simp) f2 rfl hk rfl wgLib.f_relMerge (x_relMerge_n link) (x_relMerge_b link) (x_relMerge_x link) (x_relMerge_f link) (ad:=ad) (by simpa [Act.eval]using g6),5,?_⟩
 apply aI
 apply gi_region
 obtain⟨m,hm⟩:=h ((T6.setIfInBounds 9 (.tuple #[])).setIfInBounds 10 (.tuple #[])) (by simpa using s6) (by rw[dn (by simp;omega),dn (by omega)];exact z6)
 refine dw.halt λw _=>⟨rfl,_,stepG_mark0 .disable (by simp) rfl rfl hk rfl wgLib.f_disable (x_disable_n link) (x_disable_b link) (x_disable_x link) (x_disable_f link),m+1,?_⟩
 exact aI hm
theorem NH{I':World->Prop}{T:Array Value}{ad:Addr}(hk:b.kind≠ .early)(hT:21<=T.size)(h0:T[0]?.getD undef=.pointer (some ad)):
  dw Tryz.prog main I DC0 (MC Tryz.prog main I' ad 1 0 (M3 Tryz.prog main I' (mk .enable) (λg _=>EU b cs g))) 10 (G (b.at ⟨T,[]⟩ [.code (.seq (.region 3 wU false) (.seq (.seq (.region 4 EX false) (.cond (.tmp 16) NG .skip)) (.region 6 #[⟨some 20,.call {callee:=.value (.func 152),args:= #[],argTypes:= #[]},0,"mutex.go:205",#[],none⟩] false)))]) cs):=by
 have e0:wU[0]? =some ⟨some 11,.move (.tmp 0),274,"mutex.go:199",#[],none⟩:=by kernel_rfl
 have e1:wU[1]? =some ⟨some 12,.nilCheck (.tmp 11),0,"mutex.go:199",#[⟨0,.data⟩],none⟩:=by kernel_rfl
 have e2:wU[2]? =some ⟨some 13,.fieldAddr 257 (.tmp 12) 0,0,"mutex.go:199",#[⟨1,.data⟩],none⟩:=by kernel_rfl
 have e3:wU[3]? =some ⟨some 14,.call {callee:=.value (.func 207),args:= #[.tmp 13,.const (.int .i32 (-1))],argTypes:= #[276,21]},21,"mutex.go:199",#[⟨2,.data⟩],none⟩:=by kernel_rfl
 have e4:wU[4]? =some ⟨some 2,.assign (.tmp 14),21,"mutex.go:199",#[⟨3,.data⟩,⟨3,.chain⟩,⟨0,.phase⟩,⟨1,.phase⟩,⟨2,.phase⟩,⟨3,.phase⟩],none⟩:=by kernel_rfl
 have es:List.range wU.size=[0,1,2,3,4]:=by kernel_rfl
 have f0:EX[0]? =some ⟨some 15,.move (.tmp 2),21,"mutex.go:200",#[],none⟩:=by kernel_rfl
 have f1:EX[1]? =some ⟨some 16,.binOp .neq 21 (.tmp 15) (.const (.int .i32 0)) 21,4,"mutex.go:200",#[⟨0,.data⟩],none⟩:=by kernel_rfl
 have fs:List.range EX.size=[0,1]:=by kernel_rfl
 have ha:ad.add 0=ad:=by unfold Addr.add;simp
 apply bn
 apply gi_region
 rw[es]
 refine aH (v:=.pointer (some ad)) e0 rfl hk (λw _=>by simp[execOp,Act.eval,h0]) (λw _=>by simp[execOp,Act.eval,h0,go_sem]) ?_
 show dw _ _ _ _ _ _ (G (b.at ⟨T.setIfInBounds 11 (.pointer (some ad)),[]⟩ _) _)
 have s1:21<=(T.setIfInBounds 11 (.pointer (some ad))).size:=by simpa using hT
 have g1:(T.setIfInBounds 11 (.pointer (some ad)))[11]?.getD undef=.pointer (some ad):=by rw[dn (by omega)];rfl
 generalize T.setIfInBounds 11 (.pointer (some ad))=T1 at s1 g1⊢
 refine aH (v:=.pointer (some ad)) e1 rfl hk (λw _=>by simp[execOp,Act.eval,g1]) (λw _=>by simp[execOp,Act.eval,g1,go_sem]) ?_
 show dw _ _ _ _ _ _ (G (b.at ⟨T1.setIfInBounds 12 (.pointer (some ad)),[]⟩ _) _)
 have s2:21<=(T1.setIfInBounds 12 (.pointer (some ad))).size:=by simpa using s1
 have g2:(T1.setIfInBounds 12 (.pointer (some ad)))[12]?.getD undef=.pointer (some ad):=by rw[dn (by omega)];rfl
 generalize T1.setIfInBounds 12 (.pointer (some ad))=T2 at s2 g2⊢
 refine aH (v:=.pointer (some ad)) e2 rfl hk (λw _=>by simp[execOp,Act.eval,g2,Instr.fieldAt,Instr.sureAddr,go_sem,ha]) (λw _=>by simp[execOp,Act.eval,g2,Instr.fieldAt,Instr.sureAddr,go_sem,ha]) ?_
 show dw _ _ _ _ _ _ (G (b.at ⟨T2.setIfInBounds 13 (.pointer (some ad)),[]⟩ _) _)
 have s3:21<=(T2.setIfInBounds 13 (.pointer (some ad))).size:=by simpa using s2
 have g3:(T2.setIfInBounds 13 (.pointer (some ad)))[13]?.getD undef=.pointer (some ad):=by rw[dn (by omega)];rfl
 generalize T2.setIfInBounds 13 (.pointer (some ad))=T3 at s3 g3⊢
 have ew:IntKind.i32.wrap (1+ -1)=0:=by decide
 refine dw.halt λw _=>⟨rfl,λhc hz=>⟨_,(stepG_add_atomic e3 rfl hk rfl Tryz.func207 (by kernel_rfl) (by kernel_rfl) (by kernel_rfl) .i32 (by kernel_rfl) (by rw[<-g3];simp[Act.eval]) rfl hc hz).trans (by rw[ew];rfl),20,?_⟩⟩
 show dw _ _ _ _ _ _ (G (b.at ⟨T3.setIfInBounds 14 (.int .i32 0),[]⟩ _) _)
 have s4:21<=(T3.setIfInBounds 14 (.int .i32 0)).size:=by simpa using s3
 have g4:(T3.setIfInBounds 14 (.int .i32 0))[14]?.getD undef=.int .i32 0:=by rw[dn (by omega)];rfl
 generalize T3.setIfInBounds 14 (.int .i32 0)=T4 at s4 g4⊢
 refine aH (v:=.int .i32 0) e4 rfl hk (λw _=>by simp[execOp,Act.eval,g4]) (λw _=>by simp[execOp,Act.eval,g4,go_sem]) ?_
 show dw _ _ _ _ _ _ (G (b.at ⟨T4.setIfInBounds 2 (.int .i32 0),[]⟩ _) _)
 have s5:21<=(T4.setIfInBounds 2 (.int .i32 0)).size:=by simpa using s4
 have g5:(T4.setIfInBounds 2 (.int .i32 0))[2]?.getD undef=.int .i32 0:=by rw[dn (by omega)];rfl
 generalize T4.setIfInBounds 2 (.int .i32 0)=T5 at s5 g5⊢
 apply aI
 apply bn
 apply bn
 apply gi_region
 rw[fs]
 refine aH (v:=.int .i32 0) f0 rfl hk (λw _=>by simp[execOp,Act.eval,g5]) (λw _=>by simp[execOp,Act.eval,g5,go_sem]) ?_
 show dw _ _ _ _ _ _ (G (b.at ⟨T5.setIfInBounds 15 (.int .i32 0),[]⟩ _) _)
 have s6:21<=(T5.setIfInBounds 15 (.int .i32 0)).size:=by simpa using s5
 have g6:(T5.setIfInBounds 15 (.int .i32 0))[15]?.getD undef=.int .i32 0:=by rw[dn (by omega)];rfl
 generalize T5.setIfInBounds 15 (.int .i32 0)=T6 at s6 g6⊢
 refine aH (v:=.bool false) f1 rfl hk (λw _=>by simp[execOp,Act.eval,g6,go_sem]) (λw _=>by simp[execOp,Act.eval,g6,go_sem]) ?_
 show dw _ _ _ _ _ _ (G (b.at ⟨T6.setIfInBounds 16 (.bool false),[]⟩ _) _)
 have g7:(T6.setIfInBounds 16 (.bool false))[16]?.getD undef=.bool false:=by rw[dn (by omega)];rfl
 generalize T6.setIfInBounds 16 (.bool false)=T7 at g7⊢
 apply aI
 refine aY (t:=false) (by simp[Act.eval,g7]) ?_
 rw[if_neg (by simp)]
 apply aK
 apply gi_region
 refine dw.halt λw _=>⟨rfl,_,stepG_mark0 .enable (by simp) rfl rfl hk rfl wgLib.f_enable (x_enable_n link) (x_enable_b link) (x_enable_x link) (x_enable_f link),5,?_⟩
 apply aI
 apply bG
 exact dw.halt λw _=>⟨_,_,rfl⟩
end
end Go.Proofs.YtlncengggmgdgaaGreat.par
