/- places.Find. LONE=M. No conditions. -/
import Derived.Test.YtlncengggmgdgaaGreatG22
import Derived.Test.YtlncengggmgdgaaGreatHa
import Derived.Test.YtlncengggmgdgaaGreatTk
set_option linter.unusedVariables false
set_option linter.unusedSimpArgs false
set_option maxRecDepth 100000
namespace Go.Proofs.YtlncengggmgdgaaGreat.hp
open Go Go.RowKit cm
attribute [local irreducible] par.ah
set_option maxHeartbeats 4000000
def inP(L:Lay)(x p:Int):Bool:=decide (dW L p<=x/\x-dW L p<KD L p)
def zM(L:Lay)(x:Int):Int×Int×Int:=
 if Du L then if inP L x 1 then(1,x-dW L 1,0)else if inP L x 2 then(2,x-dW L 2,0)else if inP L x 3 then(3,x-dW L 3,0)else if inP L x 4 then(4,x-dW L 4,0)else(0,0,6)
 else(0,0,1)
def nX(r:Int×Int×Int):Value:=.tuple #[.agg #[.int .i64 r.1,.int .i64 r.2.1],.int .i64 r.2.2]
theorem xE{L:Lay}(hr:Du L=true)(ok:L.ok)(p:Int):(1<=dW L p/\dW L p<=9223372036854775808)/\0<=KD L p/\KD L p<=4096:=by
 obtain⟨h1,h2,h3,h4,h5,⟨h6,h7,h8⟩,h9,h10,h11⟩:=XO hr
 unfold dW KD
 rcases h5 with h5|h5<;>rw[h5]<;>(repeat' split)<;>omega
theorem XQ(L:Lay)(x:Int)(w:World)(ok:L.ok)(hx:U64 x):
  Calls (par.ah par.Hm) 129 #[kP L,.int .u64 x] w λe w'=>e=.returned (nX (zM L x))/\Below w.heap.size w w':=by
 have HR:=Lib.hid λW=>TS L W ok
 rcases hr:Du L with _|_
 ·have HF:Hid (zM L x=(0,0,1)):=Lib.hid (by unfold zM;rw[hr];rfl)
  rw[hr]at HR
  unfold kP at*
  go_enter (par.P8 (H:=par.Hm)),Tryz.ntmps129
  go_wp2_with fail
  refine(HR.out _).mono ?_;rintro e w1 ⟨rfl,k1⟩
  have K1:aW w1 (w.heap.size+1) #[.int .i64 0,.int .i64 0] 130:=aW.tr (by exact bk) k1
  obtain⟨l1,c1,f1⟩:=K1.get
  go_wp2_with fail
  refine bodyPost_ret (v:=nX (0,0,1)) (by simp only[results,Tryz.results129,nX];go_simp) rfl ⟨by rw[HF.out],?_⟩
  exact bm
 ·have HS:=Lib.hid λW=>TT L W ok hr
  have HF:=Lib.hid (show zM L x=_ from if_pos hr)
  have P1:=xE hr ok 1
  have P2:=xE hr ok 2
  have P3:=xE hr ok 3
  have P4:=xE hr ok 4
  rw[hr]at HR
  unfold XP at HS
  unfold inP at HF
  unfold kP at*
  obtain⟨x0,x1⟩:=hx
  simp only[show KD L 1=L.low from rfl,show KD L 2=L.high from rfl,show KD L 3=L.old from rfl,show KD L 4=L.far from rfl]at*
  generalize dW L 1=A at*
  generalize dW L 2=B at*
  generalize dW L 3=C at*
  generalize dW L 4=D at*
  obtain⟨base,cap,tt,low,high,old,far⟩:=L
  dsimp only at*
  clear ok hr
  go_enter (par.P8 (H:=par.Hm)),Tryz.ntmps129
  go_wp2_with fail
  refine(HR.out _).mono ?_;rintro e w1 ⟨rfl,k1⟩
  have K0:aW w1 w.heap.size #[.int .u64 base,.int .i64 cap,.int .i64 tt,.int .i64 low,.int .i64 high,.int .i64 old,.int .i64 far] 30:=aW.tr (by exact bk) k1
  have K1:aW w1 (w.heap.size+1) #[.int .i64 0,.int .i64 0] 130:=aW.tr (by exact bk) k1
  have hb1:Hid (Below w.heap.size w w1):=Lib.hid (by exact bm)
  clear k1
  obtain⟨l0,c0,f0⟩:=K0.get
  go_wp2_with fail
  refine(HS.out _).mono ?_;rintro e w2 ⟨rfl,k2⟩
  replace K1:=Lib.hid (K1.tr k2)
  have hb2:Hid (Below w.heap.size w w2):=Lib.hid (aP hb1.out k2)
  clear k2 K0 l0 c0 f0 hb1 HR HS
  go_wp2_with fail
  go_loopw [14] (λi wr=>∃k:Nat,k<=4/\i=.int .i64 k/\Hid ((1<=k->¬(A<=x/\x-A<low))/\(2<=k->¬(B<=x/\x-B<high))/\(3<=k->¬(C<=x/\x-C<old))/\(4<=k->¬(D<=x/\x-D<far)))/\Hid (aW wr (w.heap.size+1) #[.int .i64 0,.int .i64 0] 130)/\Hid (Below w.heap.size w wr)) (λi _=>4-(intOf i).toNat)
  case atStart=>exact⟨0,by omega,rfl,Lib.hid ⟨λh=>by omega,λh=>by omega,λh=>by omega,λh=>by omega⟩,K1,hb2⟩
  clear K1 hb2
  obtain⟨k,hk,rfl,hno,KP,hb⟩:=hrel
  obtain⟨lp,cp,fp⟩:=KP.out.get
  rcases(show k=0\/k=1\/k=2\/k=3\/k=4 by omega)with rfl|rfl|rfl|rfl|rfl
  ·have hix:∀W,Sem.run (par.ah par.Hm) (Instr.index 217 (.agg #[.int .u64 A,.int .i64 low,.int .u64 B,.int .i64 high,.int .u64 C,.int .i64 old,.int .u64 D,.int .i64 far]) (.int .i64 0)) W=.ok (.agg #[.int .u64 A,.int .i64 low]) W:=λW=>by kernel_rfl
   have hwl:IntKind.u64.wrap low=low:=IntWalk.u64_in _ (by omega)
   by_cases hge:A<=x
   ·have hw:IntKind.u64.wrap (x-A)=x-A:=IntWalk.u64_in _ (by omega)
    have hw2:IntKind.i64.wrap (x-A)=x-A\/low<=x-A:=by
     rcases(show x-A<low\/low<=x-A by omega)with h|h
     ·exact .inl (by rw[IntKind.wrap_i64];omega)
     ·exact .inr h
    by_cases hlt:x-A<low
    ·replace hw2:IntKind.i64.wrap (x-A)=x-A:=hw2.resolve_right (by omega)
     go_wp2_with fail
     refine bodyPost_ret (v:=nX (1,x-A,0)) (by simp only[results,Tryz.results129,nX];go_simp) rfl ⟨?_,?_⟩
     ·rw[HF.out]
      obtain⟨q1,q2,q3,q4⟩:=hno.out
      simp only[decide_eq_true_eq]
      skip
      rw[if_pos ⟨hge,hlt⟩]
     ·have hbb:=hb.out
      exact bm
    ·clear hw2
     go_wp2_with fail
     refine⟨⟨1,by omega,rfl,Lib.hid ?_,Lib.hid ?_,Lib.hid ?_⟩,by simp[intOf]⟩
     ·obtain⟨q1,q2,q3,q4⟩:=hno.out
      refine⟨λh=> ?_,λh=> ?_,λh=> ?_,λh=> ?_⟩<;>omega
     ·have:=KP.out
      exact bk
     ·have hbb:=hb.out
      exact bm
   ·go_wp2_with fail
    refine⟨⟨1,by omega,rfl,Lib.hid ?_,Lib.hid ?_,Lib.hid ?_⟩,by simp[intOf]⟩
    ·obtain⟨q1,q2,q3,q4⟩:=hno.out
     refine⟨λh=> ?_,λh=> ?_,λh=> ?_,λh=> ?_⟩<;>omega
    ·have:=KP.out
     exact bk
    ·have hbb:=hb.out
     exact bm
  ·have hix:∀W,Sem.run (par.ah par.Hm) (Instr.index 217 (.agg #[.int .u64 A,.int .i64 low,.int .u64 B,.int .i64 high,.int .u64 C,.int .i64 old,.int .u64 D,.int .i64 far]) (.int .i64 1)) W=.ok (.agg #[.int .u64 B,.int .i64 high]) W:=λW=>by kernel_rfl
   have hwl:IntKind.u64.wrap high=high:=IntWalk.u64_in _ (by omega)
   by_cases hge:B<=x
   ·have hw:IntKind.u64.wrap (x-B)=x-B:=IntWalk.u64_in _ (by omega)
    have hw2:IntKind.i64.wrap (x-B)=x-B\/high<=x-B:=by
     rcases(show x-B<high\/high<=x-B by omega)with h|h
     ·exact .inl (by rw[IntKind.wrap_i64];omega)
     ·exact .inr h
    by_cases hlt:x-B<high
    ·replace hw2:IntKind.i64.wrap (x-B)=x-B:=hw2.resolve_right (by omega)
     go_wp2_with fail
     refine bodyPost_ret (v:=nX (2,x-B,0)) (by simp only[results,Tryz.results129,nX];go_simp) rfl ⟨?_,?_⟩
     ·rw[HF.out]
      obtain⟨q1,q2,q3,q4⟩:=hno.out
      simp only[decide_eq_true_eq]
      rw[if_neg (q1 (by omega))]
      rw[if_pos ⟨hge,hlt⟩]
     ·have hbb:=hb.out
      exact bm
    ·clear hw2
     go_wp2_with fail
     refine⟨⟨2,by omega,rfl,Lib.hid ?_,Lib.hid ?_,Lib.hid ?_⟩,by simp[intOf]⟩
     ·obtain⟨q1,q2,q3,q4⟩:=hno.out
      refine⟨λh=> ?_,λh=> ?_,λh=> ?_,λh=> ?_⟩<;>omega
     ·have:=KP.out
      exact bk
     ·have hbb:=hb.out
      exact bm
   ·go_wp2_with fail
    refine⟨⟨2,by omega,rfl,Lib.hid ?_,Lib.hid ?_,Lib.hid ?_⟩,by simp[intOf]⟩
    ·obtain⟨q1,q2,q3,q4⟩:=hno.out
     refine⟨λh=> ?_,λh=> ?_,λh=> ?_,λh=> ?_⟩<;>omega
    ·have:=KP.out
     exact bk
    ·have hbb:=hb.out
     exact bm
  ·have hix:∀W,Sem.run (par.ah par.Hm) (Instr.index 217 (.agg #[.int .u64 A,.int .i64 low,.int .u64 B,.int .i64 high,.int .u64 C,.int .i64 old,.int .u64 D,.int .i64 far]) (.int .i64 2)) W=.ok (.agg #[.int .u64 C,.int .i64 old]) W:=λW=>by kernel_rfl
   have hwl:IntKind.u64.wrap old=old:=IntWalk.u64_in _ (by omega)
   by_cases hge:C<=x
   ·have hw:IntKind.u64.wrap (x-C)=x-C:=IntWalk.u64_in _ (by omega)
    have hw2:IntKind.i64.wrap (x-C)=x-C\/old<=x-C:=by
     rcases(show x-C<old\/old<=x-C by omega)with h|h
     ·exact .inl (by rw[IntKind.wrap_i64];omega)
     ·exact .inr h
    by_cases hlt:x-C<old
    ·replace hw2:IntKind.i64.wrap (x-C)=x-C:=hw2.resolve_right (by omega)
     go_wp2_with fail
     refine bodyPost_ret (v:=nX (3,x-C,0)) (by simp only[results,Tryz.results129,nX];go_simp) rfl ⟨?_,?_⟩
     ·rw[HF.out]
      obtain⟨q1,q2,q3,q4⟩:=hno.out
      simp only[decide_eq_true_eq]
      rw[if_neg (q1 (by omega)),if_neg (q2 (by omega))]
      rw[if_pos ⟨hge,hlt⟩]
     ·have hbb:=hb.out
      exact bm
    ·clear hw2
     go_wp2_with fail
     refine⟨⟨3,by omega,rfl,Lib.hid ?_,Lib.hid ?_,Lib.hid ?_⟩,by simp[intOf]⟩
     ·obtain⟨q1,q2,q3,q4⟩:=hno.out
      refine⟨λh=> ?_,λh=> ?_,λh=> ?_,λh=> ?_⟩<;>omega
     ·have:=KP.out
      exact bk
     ·have hbb:=hb.out
      exact bm
   ·go_wp2_with fail
    refine⟨⟨3,by omega,rfl,Lib.hid ?_,Lib.hid ?_,Lib.hid ?_⟩,by simp[intOf]⟩
    ·obtain⟨q1,q2,q3,q4⟩:=hno.out
     refine⟨λh=> ?_,λh=> ?_,λh=> ?_,λh=> ?_⟩<;>omega
    ·have:=KP.out
     exact bk
    ·have hbb:=hb.out
     exact bm
  ·have hix:∀W,Sem.run (par.ah par.Hm) (Instr.index 217 (.agg #[.int .u64 A,.int .i64 low,.int .u64 B,.int .i64 high,.int .u64 C,.int .i64 old,.int .u64 D,.int .i64 far]) (.int .i64 3)) W=.ok (.agg #[.int .u64 D,.int .i64 far]) W:=λW=>by kernel_rfl
   have hwl:IntKind.u64.wrap far=far:=IntWalk.u64_in _ (by omega)
   by_cases hge:D<=x
   ·have hw:IntKind.u64.wrap (x-D)=x-D:=IntWalk.u64_in _ (by omega)
    have hw2:IntKind.i64.wrap (x-D)=x-D\/far<=x-D:=by
     rcases(show x-D<far\/far<=x-D by omega)with h|h
     ·exact .inl (by rw[IntKind.wrap_i64];omega)
     ·exact .inr h
    by_cases hlt:x-D<far
    ·replace hw2:IntKind.i64.wrap (x-D)=x-D:=hw2.resolve_right (by omega)
     go_wp2_with fail
     refine bodyPost_ret (v:=nX (4,x-D,0)) (by simp only[results,Tryz.results129,nX];go_simp) rfl ⟨?_,?_⟩
     ·rw[HF.out]
      obtain⟨q1,q2,q3,q4⟩:=hno.out
      simp only[decide_eq_true_eq]
      rw[if_neg (q1 (by omega)),if_neg (q2 (by omega)),if_neg (q3 (by omega))]
      rw[if_pos ⟨hge,hlt⟩]
     ·have hbb:=hb.out
      exact bm
    ·clear hw2
     go_wp2_with fail
     refine⟨⟨4,by omega,rfl,Lib.hid ?_,Lib.hid ?_,Lib.hid ?_⟩,by simp[intOf]⟩
     ·obtain⟨q1,q2,q3,q4⟩:=hno.out
      refine⟨λh=> ?_,λh=> ?_,λh=> ?_,λh=> ?_⟩<;>omega
     ·have:=KP.out
      exact bk
     ·have hbb:=hb.out
      exact bm
   ·go_wp2_with fail
    refine⟨⟨4,by omega,rfl,Lib.hid ?_,Lib.hid ?_,Lib.hid ?_⟩,by simp[intOf]⟩
    ·obtain⟨q1,q2,q3,q4⟩:=hno.out
     refine⟨λh=> ?_,λh=> ?_,λh=> ?_,λh=> ?_⟩<;>omega
    ·have:=KP.out
     exact bk
    ·have hbb:=hb.out
     exact bm
  ·go_wp2_with fail
   refine bodyPost_ret (v:=nX (0,0,6)) (by simp only[results,Tryz.results129,nX];go_simp) rfl ⟨?_,?_⟩
   ·rw[HF.out]
    obtain⟨q1,q2,q3,q4⟩:=hno.out
    simp only[decide_eq_true_eq]
    rw[if_neg (q1 (by omega)),if_neg (q2 (by omega)),if_neg (q3 (by omega)),if_neg (q4 (by omega))]
   ·have hbb:=hb.out;exact bm
end Go.Proofs.YtlncengggmgdgaaGreat.hp
