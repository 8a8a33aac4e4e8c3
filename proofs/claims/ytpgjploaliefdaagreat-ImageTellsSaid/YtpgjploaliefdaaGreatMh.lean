/- The document's answer for layers 5, 7, 10 at layouts that are right: addresses, pointers, headers. No conditions. -/
import Derived.Test.YtpgjploaliefdaaGreatG05
import Derived.Test.YtpgjploaliefdaaGreatG04
import Derived.RegionTactic
import Derived.Deep.QuietTactic
import Derived.BigQuiet
import Derived.WalkSmall
namespace Go.Proofs.YtpgjploaliefdaaGreat.rh
open Go Go.RowKit hp ob hd cp ck
set_option linter.unusedVariables false
set_option linter.unusedSimpArgs false
set_option maxRecDepth 100000
set_option maxHeartbeats 4000000
theorem FX(L:Lay)(w:World)(hr:fZ L=true):Calls Tryz.prog 87 #[eY L] w λe w'=>e=.returned (.bool true)/\Below w.heap.size w w':=by
 obtain⟨r1,r2,r3,r4,r5,⟨r6,r7,r8⟩,⟨r9,r10,r11⟩⟩:=pX hr
 obtain⟨base,cap,tt,low,high,old,far⟩:=L
 dsimp only at r1 r2 r3 r4 r5 r6 r7 r8 r9 r10 r11
 clear hr
 unfold eY
 dsimp only
 have w1:IntKind.u64.wrap cap=cap:=IntWalk.u64_in _ (by omega)
 have w2:IntKind.u64.wrap (2*cap)=2*cap:=IntWalk.u64_in _ (by omega)
 have w3:IntKind.u64.wrap (9223372036854775808-2*cap)=9223372036854775808-2*cap:=IntWalk.u64_in _ (by omega)
 have w4:IntKind.i64.wrap (cap-low)=cap-low:=IntWalk.i64_in _ (by omega)
 have w5:IntKind.i64.wrap (cap-old)=cap-old:=IntWalk.i64_in _ (by omega)
 have d1:high<=cap-low:=by omega
 have d2:far<=cap-old:=by omega
 have d3:low<=cap:=by omega
 have d4:old<=cap:=by omega
 rcases r5 with rfl|rfl
 all_goals
  go_enter Tryz.func87,Tryz.ntmps87
  go_wp2_with fail
  all_goals first
   |(exfalso;omega)
   |(go_ret;refine⟨rfl,?_⟩;exact bm)
   |skip
theorem Qo(L:Lay)(p:Nat)(hp:1<=p/\p<=4)(w:World)(hr:fZ L=true):Calls Tryz.prog 102 #[eY L,.int .i64 p] w λe w'=>e=.returned (.tuple #[.int .u64 (aA L p),.int .i64 (jG L p)])/\Below w.heap.size w w':=by
 obtain⟨r1,r2,r3,r4,r5,⟨r6,r7,r8⟩,⟨r9,r10,r11⟩⟩:=pX hr
 obtain⟨base,cap,tt,low,high,old,far⟩:=L
 dsimp only at r1 r2 r3 r4 r5 r6 r7 r8 r9 r10 r11
 clear hr
 unfold eY
 dsimp only
 have w0:IntKind.u64.wrap cap=cap:=IntWalk.u64_in _ (by omega)
 have w1:IntKind.u64.wrap base=base:=IntWalk.u64_in _ (by omega)
 have w2:IntKind.u64.wrap (base+cap)=base+cap:=IntWalk.u64_in _ (by omega)
 have w3:IntKind.i64.wrap cap=cap:=IntWalk.i64_in _ (by omega)
 have w4:IntKind.i64.wrap (cap-high)=cap-high:=IntWalk.i64_in _ (by omega)
 have w5:IntKind.i64.wrap (cap-far)=cap-far:=IntWalk.i64_in _ (by omega)
 have w6:IntKind.u64.wrap (cap-high)=cap-high:=IntWalk.u64_in _ (by omega)
 have w7:IntKind.u64.wrap (cap-far)=cap-far:=IntWalk.u64_in _ (by omega)
 have w8:IntKind.u64.wrap (base+(cap-high))=base+(cap-high):=IntWalk.u64_in _ (by omega)
 have w9:IntKind.u64.wrap (base+(cap-far))=base+(cap-far):=IntWalk.u64_in _ (by omega)
 have w10:IntKind.u64.wrap (base+cap+(cap-high))=base+cap+(cap-high):=IntWalk.u64_in _ (by omega)
 have w11:IntKind.u64.wrap (base+cap+(cap-far))=base+cap+(cap-far):=IntWalk.u64_in _ (by omega)
 rcases(show p=1\/p=2\/p=3\/p=4 by omega)with rfl|rfl|rfl|rfl<;>rcases r5 with rfl|rfl
 all_goals
  go_enter Tryz.func102,Tryz.ntmps102
  go_wp2_with fail
  go_quiet (fail)
  go_wp2_with fail
  go_ret2
  refine⟨?_,?_⟩
  ·simp[aA,jG]
  ·exact bm
theorem Jq(L:Lay)(p a:Nat)(hp:1<=p/\p<=4)(w:World)(hr:fZ L=true)(ha:(a:Int)<jG L p):Calls Tryz.prog 82 #[eY L,.agg #[.int .i64 p,.int .i64 a]] w λe w'=>e=.returned (.tuple #[.int .u64 (aA L p+a),.int .i64 0])/\Below w.heap.size w w':=by
 have H1:Hid (∀W,Calls Tryz.prog 87 #[eY L] W λe w'=>e=.returned (.bool true)/\Below W.heap.size W w'):=Lib.hid λW=>FX L W hr
 have H2:Hid (∀W,Calls Tryz.prog 102 #[eY L,.int .i64 p] W λe w'=>e=.returned (.tuple #[.int .u64 (aA L p),.int .i64 (jG L p)])/\Below W.heap.size W w'):=Lib.hid λW=>Qo L p hp W hr
 have hpos:=qO hr (p:=(p:Int)) (x:=(a:Int)) (by omega) ⟨by omega,ha⟩
 have hl4:jG L p<=4096:=by
  obtain⟨r1,r2,r3,r4,r5,⟨r6,r7,r8⟩,⟨r9,r10,r11⟩⟩:=pX hr
  unfold jG;repeat' split
  all_goals omega
 have w1:IntKind.u64.wrap (a:Int)=(a:Int):=IntWalk.u64_in _ (by omega)
 have w2:IntKind.u64.wrap (aA L p+a)=aA L p+a:=IntWalk.u64_in _ (by omega)
 generalize aA L p=F at*
 generalize jG L p=N at*
 have hna:¬((a:Int)>=N):=by omega
 obtain⟨base,cap,tt,low,high,old,far⟩:=L
 unfold eY at*
 dsimp only at*
 clear hr hp hpos hl4
 go_enter Tryz.func82,Tryz.ntmps82
 go_wp2_with fail
 refine(H1.out _).mono ?_;rintro e w3 ⟨rfl,k3⟩
 have KL:=(aj.new w #[.int .u64 base,.int .i64 cap,.int .i64 tt,.int .i64 low,.int .i64 high,.int .i64 old,.int .i64 far] 117).alloc (.cells #[.int .i64 p,.int .i64 a] 113)|>.tr k3
 have KP:aj w3 (w.heap.size+1) #[.int .i64 p,.int .i64 a] 113:=(aj.mk (w:=w.alloc (.cells #[.int .u64 base,.int .i64 cap,.int .i64 tt,.int .i64 low,.int .i64 high,.int .i64 old,.int .i64 far] 117)) (by simp)).tr k3
 obtain⟨lL,cL,fL⟩:=KL.get
 obtain⟨lP,cP,fP⟩:=KP.get
 go_wp2_with fail
 refine(H2.out _).mono ?_;rintro e w4 ⟨rfl,k4⟩
 replace KL:=KL.tr k4
 obtain⟨lL,cL,fL⟩:=KL.get
 replace KP:=KP.tr k4
 obtain⟨lP,cP,fP⟩:=KP.get
 go_wp2_with fail
 go_ret2
 refine⟨rfl,?_⟩
 exact bm
theorem Xw(a:Int)(w:World)(h1:1<=a)(h2:a<9223372036854775808):Calls Tryz.prog 84 #[.int .u64 a] w λe w'=>e=.returned (.tuple #[.int .u64 (2*a+1),.int .i64 0])/\w=w':=by
 have w1:IntKind.u64.wrap (2*a)=2*a:=IntWalk.u64_in _ (by omega)
 have w2:IntKind.u64.wrap (2*a+1)=2*a+1:=IntWalk.u64_in _ (by omega)
 go_enter Tryz.func84,Tryz.ntmps84
 go_wp2_with fail
 all_goals first
  |(exfalso;omega)
  |(go_ret2;exact⟨rfl,rfl⟩)
theorem uw(h:Hp)(v:Hv)(w:World)(hl:∃a c,v.l=.slice a h.low.length c)(hh:∃a c,v.h=.slice a h.high.length c)(ho:∃a c,v.o=.slice a h.old.length c)(hf:∃a c,v.f=.slice a h.far.length c)(hr:∃a n c,v.r=.slice a n c):
  Calls Tryz.prog 83 #[fD h v] w λe w'=>e=.returned (eY h.lay)/\Below w.heap.size w w':=by
 obtain⟨vl,vh,vo,vf,vr⟩:=v
 obtain⟨la,lc,e1⟩:=hl
 obtain⟨ha,hc,e2⟩:=hh
 obtain⟨oa,oc,e3⟩:=ho
 obtain⟨fa,fc,e4⟩:=hf
 obtain⟨ra,rn,rc,e5⟩:=hr
 dsimp only at e1 e2 e3 e4 e5
 subst e1 e2 e3 e4 e5
 unfold fD eY Hp.lay
 dsimp only
 generalize h.low.length=n1
 generalize h.high.length=n2
 generalize h.old.length=n3
 generalize h.far.length=n4
 go_enter Tryz.func83,Tryz.ntmps83
 go_wp2_with fail
 refine bodyPost_ret (v:=.agg #[.int .u64 h.base,.int .i64 h.cap,.int .i64 h.tt,.int .i64 n1,.int .i64 n2,.int .i64 n3,.int .i64 n4]) (by simp only[results,Tryz.results83];go_simp) rfl ⟨rfl,?_⟩
 exact bm
end Go.Proofs.YtpgjploaliefdaaGreat.rh
