/- places: Right, first, spans, Address; heap.Layout. No conditions. -/
import Derived.Test.YtlncengggmgdgaaGreatG22
import Derived.Test.YtlncengggmgdgaaGreatMp
import Derived.Test.YtlncengggmgdgaaGreatG18
import Derived.Deep.DeepCutAuto
import Derived.Deep.CutRange
import Derived.Deep.RegionHeld3
set_option linter.unusedVariables false
set_option linter.unusedSimpArgs false
set_option maxRecDepth 100000
namespace Go.Proofs.YtlncengggmgdgaaGreat.hp
open Go Go.RowKit cm
attribute [local irreducible] par.ah
structure Lay where
 base:Int
 cap:Int
 tt:Int
 low:Int
 high:Int
 old:Int
 far:Int
def kP(L:Lay):Value:=.agg #[.int .u64 L.base,.int .i64 L.cap,.int .i64 L.tt,.int .i64 L.low,.int .i64 L.high,.int .i64 L.old,.int .i64 L.far]
def I64(x:Int):Prop:= -9223372036854775808<=x/\x<9223372036854775808
def U64(x:Int):Prop:=0<=x/\x<18446744073709551616
def Lay.ok(L:Lay):Prop:=U64 L.base/\I64 L.cap/\I64 L.tt/\I64 L.low/\I64 L.high/\I64 L.old/\I64 L.far
def Du(L:Lay):Bool:=decide (0<=L.cap/\L.cap<=4096/\1<=L.base/\L.base<=9223372036854775808-2*L.cap/\(L.tt=0\/L.tt=1)/\(0<=L.low/\0<=L.high/\L.low+L.high<=L.cap)/\(0<=L.old/\0<=L.far/\L.old+L.far<=L.cap))
theorem XO{L:Lay}(h:Du L=true):0<=L.cap/\L.cap<=4096/\1<=L.base/\L.base<=9223372036854775808-2*L.cap/\(L.tt=0\/L.tt=1)/\(0<=L.low/\0<=L.high/\L.low+L.high<=L.cap)/\(0<=L.old/\0<=L.far/\L.old+L.far<=L.cap):=by simpa [Du]using h
def dW(L:Lay)(p:Int):Int:=
 if p=1 then L.base+L.tt*L.cap else if p=2 then L.base+L.tt*L.cap+(L.cap-L.high)else if p=3 then L.base+(1-L.tt)*L.cap else L.base+(1-L.tt)*L.cap+(L.cap-L.far)
def KD(L:Lay)(p:Int):Int:=if p=1 then L.low else if p=2 then L.high else if p=3 then L.old else L.far
theorem Dv(a b n:Int)(w:World)(h1:I64 a)(h2:I64 b)(h3:0<=n/\n<=4096):
  Calls (par.ah par.Hm) 177 #[.int .i64 a,.int .i64 b,.int .i64 n] w λe w'=>e=.returned (.bool (decide (0<=a/\0<=b/\a+b<=n)))/\w=w':=by
 obtain⟨a1,a2⟩:=h1
 obtain⟨b1,b2⟩:=h2
 go_enter (par.aaj (H:=par.Hm)),Tryz.ntmps177
 go_wp2
 all_goals go_ret
 all_goals exact adT (by rw[Bool.eq_iff_iff];simp;try omega) rfl
theorem xC{a b:Bool}{Q:Prop}(h:a=b)(hq:Q):Ending.returned (.bool a)=.returned (.bool b)/\Q:=by subst h;exact⟨rfl,hq⟩
set_option maxHeartbeats 2000000 in
theorem TS(L:Lay)(w:World)(ok:L.ok):
  Calls (par.ah par.Hm) 146 #[kP L] w λe w'=>e=.returned (.bool (Du L))/\Below w.heap.size w w':=by
 obtain⟨base,cap,tt,low,high,old,far⟩:=L
 obtain⟨⟨a1,a2⟩,⟨b1,b2⟩,⟨c1,c2⟩,⟨d1,d2⟩,⟨e1,e2⟩,⟨f1,f2⟩,⟨g1,g2⟩⟩:=ok
 dsimp only at a1 a2 b1 b2 c1 c2 d1 d2 e1 e2 f1 f2 g1 g2
 unfold kP
 dsimp only
 have HR:Hid (Du ⟨base,cap,tt,low,high,old,far⟩=decide (0<=cap/\cap<=4096/\1<=base/\base<=9223372036854775808-2*cap/\(tt=0\/tt=1)/\(0<=low/\0<=high/\low+high<=cap)/\(0<=old/\0<=far/\old+far<=cap))):=rfl
 rcases Int.lt_or_le cap 0 with h1|h1
 ·go_enter (par.lT (H:=par.Hm)),Tryz.ntmps146
  go_wp2_with fail
  go_ret
  refine xC (by rw[HR.out];symm;simp;omega) ?_
  exact bm
 rcases Int.lt_or_le 4096 cap with h2|h2
 ·go_enter (par.lT (H:=par.Hm)),Tryz.ntmps146
  go_wp2_with fail
  go_ret
  refine xC (by rw[HR.out];symm;simp;omega) ?_
  exact bm
 rcases Int.lt_or_le base 1 with h3|h3
 ·go_enter (par.lT (H:=par.Hm)),Tryz.ntmps146
  go_wp2_with fail
  go_ret
  refine xC (by rw[HR.out];symm;simp;omega) ?_
  exact bm
 rcases Int.lt_or_le (9223372036854775808-2*cap) base with h4|h4
 ·go_enter (par.lT (H:=par.Hm)),Tryz.ntmps146
  go_wp2_with fail
  go_ret
  refine xC (by rw[HR.out];symm;simp;omega) ?_
  exact bm
 have i1:I64 low:=⟨d1,d2⟩
 have i2:I64 high:=⟨e1,e2⟩
 have i3:I64 old:=⟨f1,f2⟩
 have i4:I64 far:=⟨g1,g2⟩
 have i5:0<=cap/\cap<=4096:=⟨h1,h2⟩
 have HR2:Hid (Du ⟨base,cap,tt,low,high,old,far⟩=(decide (tt=0\/tt=1)&&decide (0<=low/\0<=high/\low+high<=cap)&&decide (0<=old/\0<=far/\old+far<=cap))):=Lib.hid (by
  rw[HR.out,Bool.eq_iff_iff]
  simp
  omega)
 clear HR
 have W1:Hid (∀W,Calls (par.ah par.Hm) 177 #[.int .i64 low,.int .i64 high,.int .i64 cap] W λe w'=>e=.returned (.bool (decide (0<=low/\0<=high/\low+high<=cap)))/\W=w'):=Lib.hid λW=>Dv low high cap W i1 i2 i5
 have W2:Hid (∀W,Calls (par.ah par.Hm) 177 #[.int .i64 old,.int .i64 far,.int .i64 cap] W λe w'=>e=.returned (.bool (decide (0<=old/\0<=far/\old+far<=cap)))/\W=w'):=Lib.hid λW=>Dv old far cap W i3 i4 i5
 generalize decide (0<=low/\0<=high/\low+high<=cap)=A at*
 generalize decide (0<=old/\0<=far/\old+far<=cap)=B at*
 clear i1 i2 i3 i4 i5 d1 d2 e1 e2 f1 f2 g1 g2
 by_cases h5:tt=0
 ·subst h5
  rcases A with _|_
  ·go_enter (par.lT (H:=par.Hm)),Tryz.ntmps146
   go_wp2_with fail
   refine(W1.out _).mono ?_;rintro e ww ⟨rfl,rfl⟩
   go_wp2_with fail
   go_ret
   refine xC (by rw[HR2.out];simp) ?_
   exact bm
  ·go_enter (par.lT (H:=par.Hm)),Tryz.ntmps146
   go_wp2_with fail
   refine(W1.out _).mono ?_;rintro e ww ⟨rfl,rfl⟩
   go_wp2_with fail
   refine(W2.out _).mono ?_;rintro e ww ⟨rfl,rfl⟩
   go_wp2_with fail
   go_ret
   refine xC (by rw[HR2.out];simp) ?_
   exact bm
 by_cases h6:tt=1
 ·subst h6
  rcases A with _|_
  ·go_enter (par.lT (H:=par.Hm)),Tryz.ntmps146
   go_wp2_with fail
   refine(W1.out _).mono ?_;rintro e ww ⟨rfl,rfl⟩
   go_wp2_with fail
   go_ret
   refine xC (by rw[HR2.out];simp) ?_
   exact bm
  ·go_enter (par.lT (H:=par.Hm)),Tryz.ntmps146
   go_wp2_with fail
   refine(W1.out _).mono ?_;rintro e ww ⟨rfl,rfl⟩
   go_wp2_with fail
   refine(W2.out _).mono ?_;rintro e ww ⟨rfl,rfl⟩
   go_wp2_with fail
   go_ret
   refine xC (by rw[HR2.out];simp) ?_
   exact bm
 have h5b:(tt==0)=false:=beq_eq_false_iff_ne.mpr h5
 have h6b:(tt==1)=false:=beq_eq_false_iff_ne.mpr h6
 have HR3:Hid (Du ⟨base,cap,tt,low,high,old,far⟩=false):=Lib.hid (by rw[HR2.out];simp[h5,h6])
 clear HR2
 go_enter (par.lT (H:=par.Hm)),Tryz.ntmps146
 go_wp2_with fail
 go_ret
 refine xC (by rw[HR3.out]) ?_
 exact bm
theorem first_any(L:Lay)(p:Nat)(w:World)(ok:L.ok)(hr:Du L=true)(hp:1<=p/\p<=4):
  Calls (par.ah par.Hm) 178 #[kP L,.int .i64 p] w λe w'=>e=.returned (.int .u64 (dW L p))/\Below w.heap.size w w':=by
 obtain⟨r1,r2,r3,r4,r5,r6,r7⟩:=XO hr
 obtain⟨base,cap,tt,low,high,old,far⟩:=L
 dsimp only at r1 r2 r3 r4 r5 r6 r7
 unfold kP
 dsimp only
 rcases r5 with rfl|rfl
 ·obtain⟨hp1,hp2⟩:=hp
  rcases(show p=1\/p=2\/p=3\/p=4 by omega)with rfl|rfl|rfl|rfl
  all_goals
   go_enter (par.Qb (H:=par.Hm)),Tryz.ntmps178
   go_wp2_with fail
   go_ret
   refine SG (by first|(simp[dW];done)|(simp[dW];omega)) ?_
   exact bm
 ·obtain⟨hp1,hp2⟩:=hp
  rcases(show p=1\/p=2\/p=3\/p=4 by omega)with rfl|rfl|rfl|rfl
  all_goals
   go_enter (par.Qb (H:=par.Hm)),Tryz.ntmps178
   go_wp2_with fail
   go_ret
   refine SG (by first|(simp[dW];done)|(simp[dW];omega)) ?_
   exact bm
def XP(L:Lay):Value:=.agg #[.int .u64 (dW L 1),.int .i64 L.low,.int .u64 (dW L 2),.int .i64 L.high,.int .u64 (dW L 3),.int .i64 L.old,.int .u64 (dW L 4),.int .i64 L.far]
theorem agJ{W w1:World}{n b:Nat}(hb:Below n W w1)(hn:b<n){v1 v2 v3 v4 v5 v6 v7:Value}(h:W.cell? ⟨b,0,none⟩=some v1/\W.cell? ⟨b,1,none⟩=some v2/\W.cell? ⟨b,2,none⟩=some v3/\W.cell? ⟨b,3,none⟩=some v4/\W.cell? ⟨b,4,none⟩=some v5/\W.cell? ⟨b,5,none⟩=some v6/\W.cell? ⟨b,6,none⟩=some v7):
  w1.cell? ⟨b,0,none⟩=some v1/\w1.cell? ⟨b,1,none⟩=some v2/\w1.cell? ⟨b,2,none⟩=some v3/\w1.cell? ⟨b,3,none⟩=some v4/\w1.cell? ⟨b,4,none⟩=some v5/\w1.cell? ⟨b,5,none⟩=some v6/\w1.cell? ⟨b,6,none⟩=some v7:=by
 have hc:∀o,w1.cell? ⟨b,o,none⟩=W.cell? ⟨b,o,none⟩:=λo=>hb.cell (p:=⟨b,o,none⟩) hn
 rw[hc,hc,hc,hc,hc,hc,hc]
 exact h
theorem aa0{a W:World}{n o:Nat}(h:Below n a W)(u:Value):Below n a (W.setCell ⟨n,o,none⟩ u):=h.setCell (Nat.le_refl _) u
theorem aej{a W w:World}{n:Nat}(h0:n<=a.heap.size)(h:Below n a W)(k:Below W.heap.size W w):Below n a w:=h.trans (k.mono (Nat.le_trans h0 h.size))
set_option maxHeartbeats 4000000 in
theorem TT(L:Lay)(w:World)(ok:L.ok)(hr:Du L=true):
  Calls (par.ah par.Hm) 147 #[kP L] w λe w'=>e=.returned (XP L)/\Below w.heap.size w w':=by
 have F1:Hid (∀W,Calls (par.ah par.Hm) 178 #[kP L,.int .i64 1] W λe w'=>e=.returned (.int .u64 (dW L 1))/\Below W.heap.size W w'):=Lib.hid λW=>first_any L 1 W ok hr ⟨by decide,by decide⟩
 have F2:Hid (∀W,Calls (par.ah par.Hm) 178 #[kP L,.int .i64 2] W λe w'=>e=.returned (.int .u64 (dW L 2))/\Below W.heap.size W w'):=Lib.hid λW=>first_any L 2 W ok hr ⟨by decide,by decide⟩
 have F3:Hid (∀W,Calls (par.ah par.Hm) 178 #[kP L,.int .i64 3] W λe w'=>e=.returned (.int .u64 (dW L 3))/\Below W.heap.size W w'):=Lib.hid λW=>first_any L 3 W ok hr ⟨by decide,by decide⟩
 have F4:Hid (∀W,Calls (par.ah par.Hm) 178 #[kP L,.int .i64 4] W λe w'=>e=.returned (.int .u64 (dW L 4))/\Below W.heap.size W w'):=Lib.hid λW=>first_any L 4 W ok hr ⟨by decide,by decide⟩
 unfold XP
 obtain⟨base,cap,tt,low,high,old,far⟩:=L
 unfold kP at*
 dsimp only at*
 clear ok hr
 generalize dW ⟨base,cap,tt,low,high,old,far⟩ 1=A at*
 generalize dW ⟨base,cap,tt,low,high,old,far⟩ 2=B at*
 generalize dW ⟨base,cap,tt,low,high,old,far⟩ 3=C at*
 generalize dW ⟨base,cap,tt,low,high,old,far⟩ 4=D at*
 go_enter (par.aac (H:=par.Hm)),Tryz.ntmps147
 go_wp2_with fail
 have K0:aW ((w.alloc (.cells #[.int .u64 base,.int .i64 cap,.int .i64 tt,.int .i64 low,.int .i64 high,.int .i64 old,.int .i64 far] 30)).alloc (.cells #[.int .u64 0,.int .i64 0,.int .u64 0,.int .i64 0,.int .u64 0,.int .i64 0,.int .u64 0,.int .i64 0] 217)) w.heap.size #[.int .u64 base,.int .i64 cap,.int .i64 tt,.int .i64 low,.int .i64 high,.int .i64 old,.int .i64 far] 30:=(aW.mk rfl).alloc _
 have K1:aW ((w.alloc (.cells #[.int .u64 base,.int .i64 cap,.int .i64 tt,.int .i64 low,.int .i64 high,.int .i64 old,.int .i64 far] 30)).alloc (.cells #[.int .u64 0,.int .i64 0,.int .u64 0,.int .i64 0,.int .u64 0,.int .i64 0,.int .u64 0,.int .i64 0] 217)) (w.heap.size+1) #[.int .u64 0,.int .i64 0,.int .u64 0,.int .i64 0,.int .u64 0,.int .i64 0,.int .u64 0,.int .i64 0] 217:=aW.mk (by simp)
 have kW:Below w.heap.size w ((w.alloc (.cells #[.int .u64 base,.int .i64 cap,.int .i64 tt,.int .i64 low,.int .i64 high,.int .i64 old,.int .i64 far] 30)).alloc (.cells #[.int .u64 0,.int .i64 0,.int .u64 0,.int .i64 0,.int .u64 0,.int .i64 0,.int .u64 0,.int .i64 0] 217)):=by exact bm
 generalize((w.alloc (.cells #[.int .u64 base,.int .i64 cap,.int .i64 tt,.int .i64 low,.int .i64 high,.int .i64 old,.int .i64 far] 30)).alloc (.cells #[.int .u64 0,.int .i64 0,.int .u64 0,.int .i64 0,.int .u64 0,.int .i64 0,.int .u64 0,.int .i64 0] 217))=W at*
 obtain⟨l0,c0,f0⟩:=K0.get
 have hN:w.heap.size+1<=W.heap.size:=Nat.le_of_lt K1.lt
 have tok1:True:=trivial
 have tok2:True:=trivial
 have tok3:True:=trivial
 go_region_held3 (λw'=>w'.cell? ⟨w.heap.size,0,none⟩=some (.int .u64 base)/\w'.cell? ⟨w.heap.size,1,none⟩=some (.int .i64 cap)/\w'.cell? ⟨w.heap.size,2,none⟩=some (.int .i64 tt)/\w'.cell? ⟨w.heap.size,3,none⟩=some (.int .i64 low)/\w'.cell? ⟨w.heap.size,4,none⟩=some (.int .i64 high)/\w'.cell? ⟨w.heap.size,5,none⟩=some (.int .i64 old)/\w'.cell? ⟨w.heap.size,6,none⟩=some (.int .i64 far))
  ((refine agJ (W:=W) (n:=w.heap.size+1) ?_ (Nat.lt_succ_self _) ⟨c0 0,c0 1,c0 2,c0 3,c0 4,c0 5,c0 6⟩;(repeat(first|with_reducible exact Below.refl _ _|with_reducible refine aa0 ?_ _|with_reducible refine Below.drew ?_|with_reducible refine aej hN ?_ (by with_reducible assumption)))))
  (first
   |(clear tok1;go_at_call 178;refine(F1.out _).mono ?_;rintro e w1 ⟨rfl,k1⟩;have K2:=K1.drew.tr k1)
   |(clear tok2;go_at_call 178;refine(F2.out _).mono ?_;rintro e w2 ⟨rfl,k2⟩;have K3:=K2.tr k2)
   |(clear tok3;go_at_call 178;refine(F3.out _).mono ?_;rintro e w3 ⟨rfl,k3⟩;have K4:=K3.tr k3)
   |(go_at_call 178;refine(F4.out _).mono ?_;rintro e w4 ⟨rfl,k4⟩;obtain⟨l4,d4,f4⟩:=(K4.tr k4).get;have e0:w4.cell? ⟨w.heap.size+1,0,none⟩=some (.int .u64 0):=d4 0;have e1:w4.cell? ⟨w.heap.size+1,1,none⟩=some (.int .i64 0):=d4 1;have e2:w4.cell? ⟨w.heap.size+1,2,none⟩=some (.int .u64 0):=d4 2;have e3:w4.cell? ⟨w.heap.size+1,3,none⟩=some (.int .i64 0):=d4 3;have e4:w4.cell? ⟨w.heap.size+1,4,none⟩=some (.int .u64 0):=d4 4;have e5:w4.cell? ⟨w.heap.size+1,5,none⟩=some (.int .i64 0):=d4 5;have e6:w4.cell? ⟨w.heap.size+1,6,none⟩=some (.int .u64 0):=d4 6;have e7:w4.cell? ⟨w.heap.size+1,7,none⟩=some (.int .i64 0):=d4 7;have g0:=f4 0;have g1:=f4 1;have g2:=f4 2;have g3:=f4 3;have g4:=f4 4;have g5:=f4 5;have g6:=f4 6;have g7:=f4 7;clear d4 f4))
 go_wp2_with fail
 refine bodyPost_ret (v:=.agg #[.int .u64 A,.int .i64 low,.int .u64 B,.int .i64 high,.int .u64 C,.int .i64 old,.int .u64 D,.int .i64 far]) (by simp only[results,Tryz.results147];go_simp) rfl ⟨rfl,?_⟩
 exact bm
end Go.Proofs.YtlncengggmgdgaaGreat.hp
