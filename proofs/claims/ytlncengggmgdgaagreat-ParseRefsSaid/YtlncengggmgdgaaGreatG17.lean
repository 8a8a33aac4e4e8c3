/- The lone program's functions: the program's own, but for those that are special. No conditions. -/
import Derived.Test.YtlncengggmgdgaaGreatG16
set_option linter.unusedVariables false
set_option linter.unusedSimpArgs false
set_option maxRecDepth 100000
namespace Go.Proofs.YtlncengggmgdgaaGreat.par
open Go Go.Conc
def good(T:Tables)(p rd:Bool):Code->Bool
 | .skip| .ret| .label _| .exit _| .refuse _=>true
 | .region _ ops _=>ops.all (okR T p rd)
 | .seq a b=>good T p rd a&&good T p rd b
 | .cond c a b=>dZ c&&good T p rd a&&good T p rd b
 | .block _ a| .loop a| .scope a=>good T p rd a
 | .rangeFunc f _ a b=>dZ f&&good T false true a&&good T false true b
 |_=>false
theorem ac0{T:Tables}{p b rd:Bool}(h:p=true->b=true){o:Oper}(ho:okR T p rd o=true):okR T b rd o=true:=by
 unfold okR at ho⊢
 simp only[Bool.and_eq_true,Bool.or_eq_true]at ho⊢
 exact⟨ho.1.imp id λx=>⟨h x.1,x.2⟩,ho.2⟩
theorem ZF(T:Tables):∀(c:Code){p b rd:Bool},(p=true->b=true)->good T p rd c=true->pr T b rd c=c:=by
 intro c
 induction c with
 |skip=>exactλ_ _=>rfl
 |ret=>exactλ_ _=>rfl
 |label l=>exactλ_ _=>rfl
 |exit id=>exactλ_ _=>rfl
 |refuse m=>exactλ_ _=>rfl
 |region id ops draw=>
  intro p b rd hpb h
  unfold good at h
  unfold pr
  rw[if_pos]
  rw[Array.all_eq_true_iff_forall_mem]at h⊢
  exactλo ho=>ac0 hpb (h o ho)
 |seq x y hx hy=>
  intro p b rd hpb h
  unfold good at h
  rw[Bool.and_eq_true]at h
  unfold pr
  rw[hx hpb h.1,hy hpb h.2]
 |cond c x y hx hy=>
  intro p b rd hpb h
  unfold good at h
  rw[Bool.and_eq_true,Bool.and_eq_true]at h
  unfold pr
  rw[if_pos h.1.1,hx hpb h.1.2,hy hpb h.2]
 |block id x hx=>
  intro p b rd hpb h
  unfold good at h
  unfold pr
  rw[hx hpb h]
 |loop x hx=>
  intro p b rd hpb h
  unfold good at h
  unfold pr
  rw[hx hpb h]
 |scope x hx=>
  intro p b rd hpb h
  unfold good at h
  unfold pr
  rw[hx hpb h]
 |rangeFunc f ps x y hx hy=>
  intro p b rd hpb h
  unfold good at h
  rw[Bool.and_eq_true,Bool.and_eq_true]at h
  unfold pr
  rw[if_pos h.1.1,hx id h.1.2,hy id h.2]
 |_=>intro p b rd _ h;cases h
def gd(T:Tables)(p:Bool)(f:Func):Bool:=match f.body with|some c=>good T p false c|none=>false
def own(i:FuncId):Bool:=i !=122&&i !=201&&i !=202&&i !=136
theorem Wy(T:Tables)(F:Array Func):(⟨T,F⟩:Program).funcs=F:=rfl
theorem fM{H:Code}:(ah H).funcs=dP H:=by
 unfold ah
 exact Wy _ _
theorem CO{H:Code}{p:Bool}(hp:p=true->yg H=true){i:FuncId}{f:Func}(h:(Tryz.prog).funcs[i]? =some f)(hg:gd (Tryz.prog).toTables p f=true)(hi:own i=true):(ah H).funcs[i]? =some f:=by
 rw[fM,nP H h]
 unfold own at hi
 simp only[Bool.and_eq_true,bne_iff_ne,ne_eq]at hi
 obtain⟨⟨⟨h1,h2⟩,h3⟩,h4⟩:=hi
 unfold gd at hg
 cases hb:f.body with
 |none=>rw[hb]at hg;cases hg
 |some c=>
  rw[hb]at hg
  have e:lf H (Tryz.prog).toTables i f={f with body:=some (pr (Tryz.prog).toTables (yg H) false c)}:=by
   unfold lf rC
   rw[hb]
   dsimp only
   rw[if_neg h1,if_neg h2,if_neg h3,if_neg h4]
  rw[e,ZF _ c hp hg,<-hb]
theorem SA{H:Code}{i:FuncId}{f:Func}(h:(Tryz.prog).funcs[i]? =some f)(hg:gd (Tryz.prog).toTables false f=true)(hi:own i=true):(ah H).funcs[i]? =some f:=CO (p:=false) (λe=>by cases e) h hg hi
theorem CP{H:Code}{i:FuncId}{f:Func}(h:(Tryz.prog).funcs[i]? =some f)(hb:f.body=none)(hi:i∈served):(ah H).funcs[i]? =some f:=by
 rw[fM,nP H h]
 unfold lf
 rw[hb]
 simp[hi]
theorem WA(H:Code){i:FuncId}{f:Func}{c:Code}(h:(Tryz.prog).funcs[i]? =some f)(hb:f.body=some c):(ah H).funcs[i]? =some {f with body:=some (pr (Tryz.prog).toTables (yg H) false (rC H i c))}:=by
 rw[fM,nP H h]
 unfold lf
 rw[hb]
theorem ZG{P:Program}{i:FuncId}{f:Func}(h:P.funcs[i]? =some f)(hn:(f.name== "runtime.NumGoroutine")=false)(hb:f.body.isSome=true)(args:Array Value)(w:World):Sem.run P (callFunc i args) w=.ok (.enter i args) w:=by
 obtain⟨c,hc⟩:=Option.isSome_iff_exists.1 hb
 have h1:¬f.name= "runtime.NumGoroutine" :=by simpa using hn
 simp[callFunc,h,h1,hc]
theorem LF{H:Code}{i:FuncId}{f:Func}(h:(Tryz.prog).funcs[i]? =some f)(hg:gd (Tryz.prog).toTables false f=true:=by kernel_rfl)(hi:own i=true:=by decide):(ah H).funcs[i]? =some f:=SA h hg hi
theorem LP{H:Code}(hp:yg H=true){i:FuncId}{f:Func}(h:(Tryz.prog).funcs[i]? =some f)(hg:gd (Tryz.prog).toTables true f=true:=by kernel_rfl)(hi:own i=true:=by decide):(ah H).funcs[i]? =some f:=CO (λ_=>hp) h hg hi
theorem LA{H:Code}{i:FuncId}{f:Func}(h:(Tryz.prog).funcs[i]? =some f)(hb:f.body.isSome=true:=by kernel_rfl)(hn:(f.name== "runtime.NumGoroutine")=false:=by kernel_rfl)(args:Array Value)(w:World):Sem.run (ah H) (callFunc i args) w=.ok (.enter i args) w:=by
 obtain⟨c,hc⟩:=Option.isSome_iff_exists.1 hb
 exact ZG (WA H h hc) hn rfl args w
abbrev FN(H:Code)(i:FuncId)(f:Func):Prop:=(ah H).funcs[i]? =some f
abbrev CN(H:Code)(i:FuncId):Prop:=∀(args:Array Value)(w:World),Sem.run (ah H) (callFunc i args) w=.ok (.enter i args) w
@[go_sem] theorem WC{H:Code}:FN H 4 Tryz.f4:=LF Tryz.func4
@[go_sem] theorem aja{H:Code}:CN H 6:=LA Tryz.func6
@[go_sem] theorem afi{H:Code}:FN H 6 Tryz.f6:=LF Tryz.func6
@[go_sem] theorem ajb{H:Code}:CN H 8:=LA Tryz.func8
@[go_sem] theorem afj{H:Code}:FN H 8 Tryz.f8:=LF Tryz.func8
@[go_sem] theorem ajc{H:Code}:CN H 9:=LA Tryz.func9
@[go_sem] theorem afk{H:Code}:FN H 9 Tryz.f9:=LF Tryz.func9
@[go_sem] theorem ahw{H:Code}:CN H 12:=LA Tryz.func12
@[go_sem] theorem ac1{H:Code}:FN H 12 Tryz.f12:=LF Tryz.func12
@[go_sem] theorem ahx{H:Code}:CN H 13:=LA Tryz.func13
@[go_sem] theorem WE{H:Code}:FN H 13 Tryz.f13:=LF Tryz.func13
@[go_sem] theorem ahy{H:Code}:CN H 14:=LA Tryz.func14
@[go_sem] theorem ac2{H:Code}:FN H 14 Tryz.f14:=LF Tryz.func14
@[go_sem] theorem ahz{H:Code}:CN H 16:=LA Tryz.func16
@[go_sem] theorem ac3{H:Code}:FN H 16 Tryz.f16:=LF Tryz.func16
@[go_sem] theorem ahA{H:Code}:CN H 18:=LA Tryz.func18
@[go_sem] theorem ac4{H:Code}:FN H 18 Tryz.f18:=LF Tryz.func18
@[go_sem] theorem ahB{H:Code}:CN H 19:=LA Tryz.func19
@[go_sem] theorem WG{H:Code}:FN H 19 Tryz.f19:=LF Tryz.func19
@[go_sem] theorem ahC{H:Code}:CN H 20:=LA Tryz.func20
@[go_sem] theorem ac5{H:Code}:FN H 20 Tryz.f20:=LF Tryz.func20
@[go_sem] theorem ahD{H:Code}:CN H 22:=LA Tryz.func22
@[go_sem] theorem ac6{H:Code}:FN H 22 Tryz.f22:=LF Tryz.func22
@[go_sem] theorem ahE{H:Code}:CN H 23:=LA Tryz.func23
@[go_sem] theorem ac7{H:Code}:FN H 23 Tryz.f23:=LF Tryz.func23
@[go_sem] theorem ahF{H:Code}:CN H 25:=LA Tryz.func25
@[go_sem] theorem ac8{H:Code}:FN H 25 Tryz.f25:=LF Tryz.func25
@[go_sem] theorem ahG{H:Code}:CN H 26:=LA Tryz.func26
@[go_sem] theorem ac9{H:Code}:FN H 26 Tryz.f26:=LF Tryz.func26
@[go_sem] theorem ahH{H:Code}:CN H 27:=LA Tryz.func27
@[go_sem] theorem WH{H:Code}:FN H 27 Tryz.f27:=LF Tryz.func27
@[go_sem] theorem ahI{H:Code}:CN H 28:=LA Tryz.func28
@[go_sem] theorem WI{H:Code}:FN H 28 Tryz.f28:=LF Tryz.func28
@[go_sem] theorem ahJ{H:Code}:CN H 33:=LA Tryz.func33
@[go_sem] theorem ada{H:Code}:FN H 33 Tryz.f33:=LF Tryz.func33
@[go_sem] theorem ahK{H:Code}:CN H 34:=LA Tryz.func34
@[go_sem] theorem WJ{H:Code}:FN H 34 Tryz.f34:=LF Tryz.func34
@[go_sem] theorem ahL{H:Code}:CN H 35:=LA Tryz.func35
@[go_sem] theorem adb{H:Code}:FN H 35 Tryz.f35:=LF Tryz.func35
@[go_sem] theorem ahM{H:Code}:CN H 36:=LA Tryz.func36
@[go_sem] theorem WL{H:Code}:FN H 36 Tryz.f36:=LF Tryz.func36
@[go_sem] theorem ahN{H:Code}:CN H 37:=LA Tryz.func37
@[go_sem] theorem yF{H:Code}:FN H 37 Tryz.f37:=LF Tryz.func37
@[go_sem] theorem ahO{H:Code}:CN H 38:=LA Tryz.func38
@[go_sem] theorem ade{H:Code}:FN H 38 Tryz.f38:=LF Tryz.func38
@[go_sem] theorem ahP{H:Code}:CN H 39:=LA Tryz.func39
@[go_sem] theorem adf{H:Code}:FN H 39 Tryz.f39:=LF Tryz.func39
@[go_sem] theorem ahQ{H:Code}:CN H 41:=LA Tryz.func41
@[go_sem] theorem adg{H:Code}:FN H 41 Tryz.f41:=LF Tryz.func41
@[go_sem] theorem ahR{H:Code}:CN H 42:=LA Tryz.func42
@[go_sem] theorem adh{H:Code}:FN H 42 Tryz.f42:=LF Tryz.func42
@[go_sem] theorem ahS{H:Code}:CN H 43:=LA Tryz.func43
@[go_sem] theorem adi{H:Code}:FN H 43 Tryz.f43:=LF Tryz.func43
@[go_sem] theorem ahT{H:Code}:CN H 49:=LA Tryz.func49
@[go_sem] theorem WM{H:Code}:FN H 49 Tryz.f49:=LF Tryz.func49
@[go_sem] theorem ahU{H:Code}:CN H 51:=LA Tryz.func51
@[go_sem] theorem WO{H:Code}:FN H 51 Tryz.f51:=LF Tryz.func51
@[go_sem] theorem ahV{H:Code}:CN H 52:=LA Tryz.func52
@[go_sem] theorem WQ{H:Code}:FN H 52 Tryz.f52:=LF Tryz.func52
@[go_sem] theorem ahW{H:Code}:CN H 53:=LA Tryz.func53
@[go_sem] theorem adk{H:Code}:FN H 53 Tryz.f53:=LF Tryz.func53
@[go_sem] theorem ahX{H:Code}:CN H 54:=LA Tryz.func54
@[go_sem] theorem adl{H:Code}:FN H 54 Tryz.f54:=LF Tryz.func54
@[go_sem] theorem ahY{H:Code}:CN H 55:=LA Tryz.func55
@[go_sem] theorem adn{H:Code}:FN H 55 Tryz.f55:=LF Tryz.func55
@[go_sem] theorem ahZ{H:Code}:CN H 56:=LA Tryz.func56
@[go_sem] theorem ado{H:Code}:FN H 56 Tryz.f56:=LF Tryz.func56
@[go_sem] theorem ah0{H:Code}:CN H 57:=LA Tryz.func57
theorem adp{H:Code}(h:yg H=true):FN H 57 Tryz.f57:=LP h Tryz.func57
@[go_sem] theorem ah1{H:Code}:CN H 58:=LA Tryz.func58
@[go_sem] theorem adq{H:Code}:FN H 58 Tryz.f58:=LF Tryz.func58
@[go_sem] theorem ah2{H:Code}:CN H 60:=LA Tryz.func60
@[go_sem] theorem adr{H:Code}:FN H 60 Tryz.f60:=LF Tryz.func60
@[go_sem] theorem ah3{H:Code}:CN H 61:=LA Tryz.func61
@[go_sem] theorem ads{H:Code}:FN H 61 Tryz.f61:=LF Tryz.func61
@[go_sem] theorem ah4{H:Code}:CN H 63:=LA Tryz.func63
@[go_sem] theorem adt{H:Code}:FN H 63 Tryz.f63:=LF Tryz.func63
@[go_sem] theorem ah5{H:Code}:CN H 64:=LA Tryz.func64
@[go_sem] theorem adu{H:Code}:FN H 64 Tryz.f64:=LF Tryz.func64
@[go_sem] theorem ah6{H:Code}:CN H 65:=LA Tryz.func65
@[go_sem] theorem adv{H:Code}:FN H 65 Tryz.f65:=LF Tryz.func65
@[go_sem] theorem ah7{H:Code}:CN H 66:=LA Tryz.func66
@[go_sem] theorem adw{H:Code}:FN H 66 Tryz.f66:=LF Tryz.func66
@[go_sem] theorem ah8{H:Code}:CN H 68:=LA Tryz.func68
@[go_sem] theorem adx{H:Code}:FN H 68 Tryz.f68:=LF Tryz.func68
@[go_sem] theorem ah9{H:Code}:CN H 76:=LA Tryz.func76
@[go_sem] theorem ady{H:Code}:FN H 76 Tryz.f76:=LF Tryz.func76
@[go_sem] theorem aia{H:Code}:CN H 77:=LA Tryz.func77
@[go_sem] theorem adz{H:Code}:FN H 77 Tryz.f77:=LF Tryz.func77
@[go_sem] theorem aib{H:Code}:CN H 79:=LA Tryz.func79
@[go_sem] theorem adA{H:Code}:FN H 79 Tryz.f79:=LF Tryz.func79
@[go_sem] theorem aic{H:Code}:CN H 80:=LA Tryz.func80
@[go_sem] theorem adB{H:Code}:FN H 80 Tryz.f80:=LF Tryz.func80
@[go_sem] theorem aie{H:Code}:CN H 81:=LA Tryz.func81
@[go_sem] theorem WS{H:Code}:FN H 81 Tryz.f81:=LF Tryz.func81
@[go_sem] theorem aif{H:Code}:CN H 82:=LA Tryz.func82
@[go_sem] theorem adC{H:Code}:FN H 82 Tryz.f82:=LF Tryz.func82
@[go_sem] theorem aii{H:Code}:CN H 83:=LA Tryz.func83
@[go_sem] theorem adD{H:Code}:FN H 83 Tryz.f83:=LF Tryz.func83
@[go_sem] theorem aij{H:Code}:CN H 84:=LA Tryz.func84
@[go_sem] theorem NR{H:Code}:FN H 84 Tryz.f84:=LF Tryz.func84
@[go_sem] theorem aik{H:Code}:CN H 85:=LA Tryz.func85
@[go_sem] theorem yG{H:Code}:FN H 85 Tryz.f85:=LF Tryz.func85
@[go_sem] theorem ail{H:Code}:CN H 86:=LA Tryz.func86
theorem adF{H:Code}(h:yg H=true):FN H 86 Tryz.f86:=LP h Tryz.func86
@[go_sem] theorem ain{H:Code}:CN H 87:=LA Tryz.func87
@[go_sem] theorem adG{H:Code}:FN H 87 Tryz.f87:=LF Tryz.func87
@[go_sem] theorem aio{H:Code}:CN H 88:=LA Tryz.func88
theorem adH{H:Code}(h:yg H=true):FN H 88 Tryz.f88:=LP h Tryz.func88
@[go_sem] theorem aip{H:Code}:CN H 89:=LA Tryz.func89
theorem adI{H:Code}(h:yg H=true):FN H 89 Tryz.f89:=LP h Tryz.func89
@[go_sem] theorem aiq{H:Code}:CN H 90:=LA Tryz.func90
@[go_sem] theorem adJ{H:Code}:FN H 90 Tryz.f90:=LF Tryz.func90
@[go_sem] theorem air{H:Code}:CN H 91:=LA Tryz.func91
@[go_sem] theorem adK{H:Code}:FN H 91 Tryz.f91:=LF Tryz.func91
@[go_sem] theorem ais{H:Code}:CN H 92:=LA Tryz.func92
@[go_sem] theorem WT{H:Code}:FN H 92 Tryz.f92:=LF Tryz.func92
@[go_sem] theorem ait{H:Code}:CN H 94:=LA Tryz.func94
@[go_sem] theorem adL{H:Code}:FN H 94 Tryz.f94:=LF Tryz.func94
@[go_sem] theorem aiu{H:Code}:CN H 95:=LA Tryz.func95
@[go_sem] theorem adM{H:Code}:FN H 95 Tryz.f95:=LF Tryz.func95
@[go_sem] theorem aiv{H:Code}:CN H 96:=LA Tryz.func96
@[go_sem] theorem adN{H:Code}:FN H 96 Tryz.f96:=LF Tryz.func96
@[go_sem] theorem aiw{H:Code}:CN H 97:=LA Tryz.func97
@[go_sem] theorem adO{H:Code}:FN H 97 Tryz.f97:=LF Tryz.func97
@[go_sem] theorem aix{H:Code}:CN H 98:=LA Tryz.func98
@[go_sem] theorem adP{H:Code}:FN H 98 Tryz.f98:=LF Tryz.func98
@[go_sem] theorem aiy{H:Code}:CN H 99:=LA Tryz.func99
theorem adQ{H:Code}(h:yg H=true):FN H 99 Tryz.f99:=LP h Tryz.func99
@[go_sem] theorem afl{H:Code}:CN H 100:=LA Tryz.func100
@[go_sem] theorem GH{H:Code}:FN H 100 Tryz.f100:=LF Tryz.func100
@[go_sem] theorem afm{H:Code}:CN H 101:=LA Tryz.func101
@[go_sem] theorem ZH{H:Code}:FN H 101 Tryz.f101:=LF Tryz.func101
@[go_sem] theorem afn{H:Code}:CN H 102:=LA Tryz.func102
@[go_sem] theorem ZI{H:Code}:FN H 102 Tryz.f102:=LF Tryz.func102
@[go_sem] theorem afo{H:Code}:CN H 103:=LA Tryz.func103
theorem ZJ{H:Code}(h:yg H=true):FN H 103 Tryz.f103:=LP h Tryz.func103
@[go_sem] theorem afp{H:Code}:CN H 104:=LA Tryz.func104
@[go_sem] theorem PW{H:Code}:FN H 104 Tryz.f104:=LF Tryz.func104
@[go_sem] theorem afq{H:Code}:CN H 107:=LA Tryz.func107
@[go_sem] theorem ZK{H:Code}:FN H 107 Tryz.f107:=LF Tryz.func107
@[go_sem] theorem ZL{H:Code}:FN H 108 Tryz.f108:=LF Tryz.func108
@[go_sem] theorem afr{H:Code}:CN H 109:=LA Tryz.func109
@[go_sem] theorem ZM{H:Code}:FN H 109 Tryz.f109:=LF Tryz.func109
@[go_sem] theorem afs{H:Code}:CN H 113:=LA Tryz.func113
@[go_sem] theorem ZN{H:Code}:FN H 113 Tryz.f113:=LF Tryz.func113
@[go_sem] theorem aft{H:Code}:CN H 114:=LA Tryz.func114
@[go_sem] theorem ZO{H:Code}:FN H 114 Tryz.f114:=LF Tryz.func114
@[go_sem] theorem afu{H:Code}:CN H 115:=LA Tryz.func115
@[go_sem] theorem ZQ{H:Code}:FN H 115 Tryz.f115:=LF Tryz.func115
@[go_sem] theorem afv{H:Code}:CN H 116:=LA Tryz.func116
@[go_sem] theorem ZR{H:Code}:FN H 116 Tryz.f116:=LF Tryz.func116
@[go_sem] theorem afw{H:Code}:CN H 117:=LA Tryz.func117
@[go_sem] theorem PX{H:Code}:FN H 117 Tryz.f117:=LF Tryz.func117
@[go_sem] theorem afx{H:Code}:CN H 118:=LA Tryz.func118
@[go_sem] theorem ZT{H:Code}:FN H 118 Tryz.f118:=LF Tryz.func118
@[go_sem] theorem afy{H:Code}:CN H 119:=LA Tryz.func119
@[go_sem] theorem ZU{H:Code}:FN H 119 Tryz.f119:=LF Tryz.func119
@[go_sem] theorem afz{H:Code}:CN H 120:=LA Tryz.func120
@[go_sem] theorem tH{H:Code}:FN H 120 Tryz.f120:=LF Tryz.func120
@[go_sem] theorem afA{H:Code}:CN H 121:=LA Tryz.func121
@[go_sem] theorem ZV{H:Code}:FN H 121 Tryz.f121:=LF Tryz.func121
@[go_sem] theorem afB{H:Code}:CN H 122:=LA Tryz.func122
@[go_sem] theorem afC{H:Code}:CN H 123:=LA Tryz.func123
@[go_sem] theorem ZW{H:Code}:FN H 123 Tryz.f123:=LF Tryz.func123
@[go_sem] theorem afD{H:Code}:CN H 124:=LA Tryz.func124
@[go_sem] theorem PY{H:Code}:FN H 124 Tryz.f124:=LF Tryz.func124
@[go_sem] theorem afE{H:Code}:CN H 125:=LA Tryz.func125
@[go_sem] theorem PZ{H:Code}:FN H 125 Tryz.f125:=LF Tryz.func125
@[go_sem] theorem afF{H:Code}:CN H 126:=LA Tryz.func126
@[go_sem] theorem ZX{H:Code}:FN H 126 Tryz.f126:=LF Tryz.func126
@[go_sem] theorem afG{H:Code}:CN H 127:=LA Tryz.func127
@[go_sem] theorem P6{H:Code}:FN H 127 Tryz.f127:=LF Tryz.func127
@[go_sem] theorem afH{H:Code}:CN H 128:=LA Tryz.func128
@[go_sem] theorem P7{H:Code}:FN H 128 Tryz.f128:=LF Tryz.func128
@[go_sem] theorem afI{H:Code}:CN H 129:=LA Tryz.func129
@[go_sem] theorem P8{H:Code}:FN H 129 Tryz.f129:=LF Tryz.func129
@[go_sem] theorem ZY{H:Code}:(ah H).funcs[132]? =some Tryz.f132:=CP Tryz.func132 rfl (by decide)
@[go_sem] theorem afJ{H:Code}:CN H 133:=LA Tryz.func133
@[go_sem] theorem Z4{H:Code}:FN H 133 Tryz.f133:=LF Tryz.func133
@[go_sem] theorem afK{H:Code}:CN H 134:=LA Tryz.func134
@[go_sem] theorem Z5{H:Code}:FN H 134 Tryz.f134:=LF Tryz.func134
@[go_sem] theorem afL{H:Code}:CN H 138:=LA Tryz.func138
@[go_sem] theorem GI{H:Code}:FN H 138 Tryz.f138:=LF Tryz.func138
@[go_sem] theorem afM{H:Code}:CN H 142:=LA Tryz.func142
@[go_sem] theorem Z7{H:Code}:FN H 142 Tryz.f142:=LF Tryz.func142
@[go_sem] theorem afN{H:Code}:CN H 143:=LA Tryz.func143
theorem Z8{H:Code}(h:yg H=true):FN H 143 Tryz.f143:=LP h Tryz.func143
@[go_sem] theorem afO{H:Code}:CN H 144:=LA Tryz.func144
@[go_sem] theorem P9{H:Code}:FN H 144 Tryz.f144:=LF Tryz.func144
@[go_sem] theorem afP{H:Code}:CN H 145:=LA Tryz.func145
@[go_sem] theorem Z9{H:Code}:FN H 145 Tryz.f145:=LF Tryz.func145
@[go_sem] theorem afQ{H:Code}:CN H 146:=LA Tryz.func146
@[go_sem] theorem lT{H:Code}:FN H 146 Tryz.f146:=LF Tryz.func146
@[go_sem] theorem afR{H:Code}:CN H 147:=LA Tryz.func147
@[go_sem] theorem aac{H:Code}:FN H 147 Tryz.f147:=LF Tryz.func147
@[go_sem] theorem afS{H:Code}:CN H 149:=LA Tryz.func149
@[go_sem] theorem aad{H:Code}:FN H 149 Tryz.f149:=LF Tryz.func149
@[go_sem] theorem afT{H:Code}:CN H 163:=LA Tryz.func163
@[go_sem] theorem aae{H:Code}:FN H 163 Tryz.f163:=LF Tryz.func163
@[go_sem] theorem afU{H:Code}:CN H 164:=LA Tryz.func164
@[go_sem] theorem aaf{H:Code}:FN H 164 Tryz.f164:=LF Tryz.func164
@[go_sem] theorem afV{H:Code}:CN H 172:=LA Tryz.func172
@[go_sem] theorem aag{H:Code}:FN H 172 Tryz.f172:=LF Tryz.func172
@[go_sem] theorem GK{H:Code}:FN H 173 Tryz.f173:=LF Tryz.func173
@[go_sem] theorem afW{H:Code}:CN H 174:=LA Tryz.func174
theorem aah{H:Code}(h:yg H=true):FN H 174 Tryz.f174:=LP h Tryz.func174
@[go_sem] theorem afX{H:Code}:CN H 175:=LA Tryz.func175
theorem aai{H:Code}(h:yg H=true):FN H 175 Tryz.f175:=LP h Tryz.func175
@[go_sem] theorem afY{H:Code}:CN H 176:=LA Tryz.func176
@[go_sem] theorem Qa{H:Code}:FN H 176 Tryz.f176:=LF Tryz.func176
@[go_sem] theorem afZ{H:Code}:CN H 177:=LA Tryz.func177
@[go_sem] theorem aaj{H:Code}:FN H 177 Tryz.f177:=LF Tryz.func177
@[go_sem] theorem af0{H:Code}:CN H 178:=LA Tryz.func178
@[go_sem] theorem Qb{H:Code}:FN H 178 Tryz.f178:=LF Tryz.func178
@[go_sem] theorem af2{H:Code}:CN H 179:=LA Tryz.func179
@[go_sem] theorem Qc{H:Code}:FN H 179 Tryz.f179:=LF Tryz.func179
@[go_sem] theorem af4{H:Code}:CN H 184:=LA Tryz.func184
@[go_sem] theorem aak{H:Code}:FN H 184 Tryz.f184:=LF Tryz.func184
@[go_sem] theorem af5{H:Code}:CN H 185:=LA Tryz.func185
@[go_sem] theorem aal{H:Code}:FN H 185 Tryz.f185:=LF Tryz.func185
@[go_sem] theorem af6{H:Code}:CN H 187:=LA Tryz.func187
@[go_sem] theorem Qd{H:Code}:FN H 187 Tryz.f187:=LF Tryz.func187
@[go_sem] theorem af7{H:Code}:CN H 188:=LA Tryz.func188
@[go_sem] theorem aam{H:Code}:FN H 188 Tryz.f188:=LF Tryz.func188
@[go_sem] theorem af8{H:Code}:CN H 189:=LA Tryz.func189
@[go_sem] theorem aan{H:Code}:FN H 189 Tryz.f189:=LF Tryz.func189
@[go_sem] theorem af9{H:Code}:CN H 190:=LA Tryz.func190
@[go_sem] theorem aao{H:Code}:FN H 190 Tryz.f190:=LF Tryz.func190
@[go_sem] theorem aga{H:Code}:CN H 191:=LA Tryz.func191
@[go_sem] theorem Qe{H:Code}:FN H 191 Tryz.f191:=LF Tryz.func191
@[go_sem] theorem agb{H:Code}:CN H 192:=LA Tryz.func192
@[go_sem] theorem aap{H:Code}:FN H 192 Tryz.f192:=LF Tryz.func192
@[go_sem] theorem agc{H:Code}:CN H 193:=LA Tryz.func193
@[go_sem] theorem Qg{H:Code}:FN H 193 Tryz.f193:=LF Tryz.func193
@[go_sem] theorem agd{H:Code}:CN H 194:=LA Tryz.func194
@[go_sem] theorem aaq{H:Code}:FN H 194 Tryz.f194:=LF Tryz.func194
@[go_sem] theorem agf{H:Code}:CN H 195:=LA Tryz.func195
@[go_sem] theorem aar{H:Code}:FN H 195 Tryz.f195:=LF Tryz.func195
@[go_sem] theorem Qh{H:Code}:(ah H).funcs[196]? =some Tryz.f196:=CP Tryz.func196 rfl (by decide)
@[go_sem] theorem agh{H:Code}:CN H 197:=LA Tryz.func197
@[go_sem] theorem aas{H:Code}:FN H 197 Tryz.f197:=LF Tryz.func197
@[go_sem] theorem agi{H:Code}:CN H 198:=LA Tryz.func198
@[go_sem] theorem aat{H:Code}:FN H 198 Tryz.f198:=LF Tryz.func198
@[go_sem] theorem agj{H:Code}:CN H 199:=LA Tryz.func199
@[go_sem] theorem aau{H:Code}:FN H 199 Tryz.f199:=LF Tryz.func199
@[go_sem] theorem agk{H:Code}:CN H 200:=LA Tryz.func200
@[go_sem] theorem Qi{H:Code}:FN H 200 Tryz.f200:=LF Tryz.func200
@[go_sem] theorem agl{H:Code}:CN H 201:=LA Tryz.func201
@[go_sem] theorem agm{H:Code}:CN H 202:=LA Tryz.func202
@[go_sem] theorem aav{H:Code}:(ah H).funcs[203]? =some Tryz.f203:=CP Tryz.func203 rfl (by decide)
@[go_sem] theorem agn{H:Code}:CN H 204:=LA Tryz.func204
@[go_sem] theorem aaw{H:Code}:FN H 204 Tryz.f204:=LF Tryz.func204
end Go.Proofs.YtlncengggmgdgaaGreat.par
namespace Go.Proofs.YtlncengggmgdgaaGreat.par
open Go Go.Conc
section
variable {P : Program} {tl : List Frame} {R : FuncId → Value → World → Prop}
def qh(P:Program)(s:Sem Next)(u:World)(Q:Value->World->Prop):Prop:=
 (∀τ,∃h w es,cZ h/\s.runT P (tp u τ) #[]=(.halt h w,es))\/∃v u2 es,u.drawn<=u2.drawn/\(∀τ,s.run P (tp u τ)=.ok (.value v) (tp u2 τ))/\(∀τ,s.events P (tp u τ) #[]=es)/\Q v u2
theorem bJ{b:Frame}{a:Act}{k:List Item}{cs:List Frame}{u:World}{s0:LS}{ops:Array Oper}{i:Nat}{rest:List Nat}{o:Oper}(ho:ops[i]? =some o)(hw:Region.wanted o (yielded ops a.tmps)=true)(hk:b.kind≠ .early){Q:Value->World->Prop}(hd:qh P (execOp a.eval o) u Q)
  (h:bf P tl R s0 (b.at a (.inRegion ops (i::rest)::k)) cs u):∃v u2,Q v u2/\bf P tl R s0 (b.at (a.put o.dst v) (.inRegion ops rest::k)) cs u2:=by
 rcases hd with hd|⟨v,u2,es,h1,h2,h3,h4⟩
 ·exact(jJ ho hw hk hd h).elim
 ·exact⟨v,u2,h4,jC (es:=seen P b.fn es) ho hw hk h1 h2 (λτ=>by unfold listed;rw[h3 τ]) h⟩
end
attribute [local irreducible] ah
section
variable {H : Code} {ρ : Operand → Value} {u : World} {d : Option Tmp} {t' : TypeId}
theorem qh.ok{P:Program}{s:Sem Next}{u u2:World}{v:Value}{es:Array Event}{Q:Value->World->Prop}(hd:u.drawn<=u2.drawn)(h1:∀τ,s.run P (tp u τ)=.ok (.value v) (tp u2 τ))(h2:∀τ,s.events P (tp u τ) #[]=es)(hQ:Q v u2):qh P s u Q:=.inr ⟨v,u2,es,hd,h1,h2,hQ⟩
abbrev JQ(d:Option Tmp)(x:Operand)(t:TypeId):Oper:=dK d (.call {callee:=.builtin .len,args:= #[x],argTypes:= #[t]}) 3
set_option maxHeartbeats 4000000 in
theorem agp(x:Operand):qh (ah H) (execOp ρ (JQ d x 176)) u (λv u2=>u=u2/\∃ad n c,ρ x=.slice ad n c/\v=.int .i64 (n:Nat)):=by
 cases hx:ρ x
 case slice ad n c=>
  refine .ok (v:=.int .i64 n) (u2:=u) (es:= #[]) (Nat.le_refl _) (λτ=> ?_) (λτ=> ?_) ⟨rfl,ad,n,c,rfl,rfl⟩
  ·simp[execOp,dK,resolve,invoke,builtin,hx,go_sem]
  ·simp[execOp,dK,resolve,invoke,builtin,hx,go_sem]
 all_goals
  refine .inl λτ=> ?_
  simp[execOp,dK,resolve,invoke,builtin,Builtin.len_,Builtin.lenOf,hx,go_sem]
  trivial
set_option maxHeartbeats 4000000 in
theorem adR(x:Operand):qh (ah H) (execOp ρ (JQ d x 9)) u (λv u2=>u=u2/\∃s,ρ x=.string s/\v=.int .i64 (s.size:Nat)):=by
 cases hx:ρ x
 case string s=>
  refine .ok (v:=.int .i64 s.size) (u2:=u) (es:= #[]) (Nat.le_refl _) (λτ=> ?_) (λτ=> ?_) ⟨rfl,s,rfl,rfl⟩
  ·simp[execOp,dK,resolve,invoke,builtin,hx,go_sem]
  ·simp[execOp,dK,resolve,invoke,builtin,Builtin.len_,hx,go_sem]
 all_goals
  refine .inl λτ=> ?_
  simp[execOp,dK,resolve,invoke,builtin,Builtin.len_,Builtin.lenOf,hx,go_sem]
  trivial
theorem zF(x y:Operand){m:Int}(hm:ρ x=.int .i64 m):qh (ah H) (execOp ρ (dK d (.binOp .leq 3 x y 3) 4)) u (λv u2=>u=u2/\∃n:Int,ρ y=.int .i64 n/\v=.bool (decide (m<=n))):=by
 cases hy:ρ y
 case int k n=>
  by_cases hk:k=.i64
  ·subst hk
   refine .ok (v:=.bool (decide (m<=n))) (u2:=u) (es:= #[]) (Nat.le_refl _) (λτ=> ?_) (λτ=> ?_) ⟨rfl,n,rfl,rfl⟩
   ·simp[execOp,dK,hm,hy,go_sem]
   ·simp[execOp,dK,hm,hy,go_sem]
  ·refine .inl λτ=> ?_
   have hk2:¬(.i64:IntKind)=k:=λe=>hk e.symm
   simp[execOp,dK,binOp,hm,hy,hk2,go_sem]
   trivial
 all_goals
  refine .inl λτ=> ?_
  simp[execOp,dK,binOp,hm,hy,go_sem]
  trivial
abbrev WU(d:Option Tmp)(x:Operand):Oper:=dK d (.call {callee:=.builtin .cap,args:= #[x],argTypes:= #[176]}) 3
theorem agq(x:Operand){ad:Option Addr}{n c:Nat}(hx:ρ x=.slice ad n c):qh (ah H) (execOp ρ (WU d x)) u (λv u2=>u=u2/\v=.int .i64 (c:Nat)):=by
 refine .ok (v:=.int .i64 c) (u2:=u) (es:= #[]) (Nat.le_refl _) (λτ=> ?_) (λτ=> ?_) ⟨rfl,rfl⟩
 ·simp[execOp,dK,resolve,invoke,builtin,Builtin.cap_,hx,go_sem]
 ·simp[execOp,dK,resolve,invoke,builtin,Builtin.cap_,hx,go_sem]
abbrev NS(d:Option Tmp)(x:Operand):Oper:=dK d (.call {callee:=.builtin .unsafeSliceData,args:= #[x],argTypes:= #[176]}) 0
theorem SC(ats:Array TypeId)(t:TypeId)(n c:Nat):Builtin.unsafeSliceData_ ats t #[.slice none n c]=pure (.pointer none):=rfl
theorem E8(ats:Array TypeId)(t:TypeId)(p:Addr)(n c:Nat)(hc:c≠0):Builtin.unsafeSliceData_ ats t #[.slice (some p) n c]=pure (.pointer (some p)):=by
 show(if c≠0 then _ else _)=_
 rw[if_pos hc]
theorem adS(x:Operand){ad:Option Addr}{n c:Nat}(hx:ρ x=.slice ad n c)(hc:c≠0):qh (ah H) (execOp ρ (NS d x)) u (λv u2=>u=u2/\v=.pointer ad):=by
 have e:Builtin.unsafeSliceData_ #[176] 0 #[.slice ad n c]=pure (.pointer ad):=by
  cases ad with
  |none=>exact SC _ _ _ _
  |some p=>exact E8 _ _ _ _ _ hc
 refine .ok (v:=.pointer ad) (u2:=u) (es:= #[]) (Nat.le_refl _) (λτ=> ?_) (λτ=> ?_) ⟨rfl,rfl⟩
 ·simp[execOp,dK,resolve,invoke,builtin,hx,e,go_sem]
 ·simp[execOp,dK,resolve,invoke,builtin,hx,e,go_sem]
theorem eq_nil(k:Nat)(ad:Option Addr)(w:World):(Op.equalIn (k+1) 274 (.pointer ad) (.pointer none)).run (ah H) w=.ok ad.isNone w/\(Op.equalIn (k+1) 274 (.pointer ad) (.pointer none)).events (ah H) w #[]= #[]:=by
 unfold Op.equalIn
 cases ad with
 |none=>
  constructor
  ·simp[go_sem]
  ·simp[go_sem]
 |some p=>
  constructor
  ·simp[go_sem]
  ·simp[go_sem]
theorem agr(x y:Operand){ad:Option Addr}(hx:ρ x=.pointer ad)(hy:ρ y=.pointer none):qh (ah H) (execOp ρ (dK d (.binOp .eql 274 x y 274) 4)) u (λv u2=>u=u2/\v=.bool ad.isNone):=by
 refine .ok (v:=.bool ad.isNone) (u2:=u) (es:= #[]) (Nat.le_refl _) (λτ=> ?_) (λτ=> ?_) ⟨rfl,rfl⟩
 ·have h6:=(eq_nil (H:=H) 9999 ad (tp u τ)).1
  cases ad<;>(simp[execOp,dK,hx,hy,binOp,Op.equal,Op.maxDepth,go_sem];rw[h6];rfl)
 ·have h6:=(eq_nil (H:=H) 9999 ad (tp u τ)).2
  cases ad<;>(simp[execOp,dK,hx,hy,binOp,Op.equal,Op.maxDepth,go_sem];exact h6)
theorem aax(x y:Operand){p:Addr}{n c i:Nat}(hx:ρ x=.slice (some p) n c)(hy:ρ y=.int .i64 (i:Nat))(hi:i<n):qh (ah H) (execOp ρ (dK d (.indexAddr 176 x y) 0)) u (λv u2=>u=u2/\v=.pointer (some (p.add (i*3)))):=by
 refine .ok (v:=.pointer (some (p.add (i*3)))) (u2:=u) (es:= #[]) (Nat.le_refl _) (λτ=> ?_) (λτ=> ?_) ⟨rfl,rfl⟩
 ·simp[execOp,dK,hx,hy,hi,go_sem]
 ·simp[execOp,dK,hx,hy,hi,go_sem]
theorem GL(x:Operand){v0 v1 v2:Value}(hx:ρ x=.agg #[v0,v1,v2])(j:Nat)(hj:j<3):qh (ah H) (execOp ρ (dK d (.field 178 x j) 3)) u (λv u2=>u=u2/\ #[v0,v1,v2].getD j undef=v):=by
 refine .ok (v:= #[v0,v1,v2].getD j undef) (u2:=u) (es:= #[]) (Nat.le_refl _) (λτ=> ?_) (λτ=> ?_) ⟨rfl,rfl⟩
 ·match j,hj with
  |0,_=>simp[execOp,dK,Instr.field,part,asAgg,hx,go_sem]
  |1,_=>simp[execOp,dK,Instr.field,part,asAgg,hx,go_sem]
  |2,_=>simp[execOp,dK,Instr.field,part,asAgg,hx,go_sem]
 ·match j,hj with
  |0,_=>simp[execOp,dK,Instr.field,part,asAgg,hx,go_sem]
  |1,_=>simp[execOp,dK,Instr.field,part,asAgg,hx,go_sem]
  |2,_=>simp[execOp,dK,Instr.field,part,asAgg,hx,go_sem]
theorem abT(x y:Operand){m n:Int}(hx:ρ x=.int .i64 m)(hy:ρ y=.int .i64 n):qh (ah H) (execOp ρ (dK d (.binOp .add 3 x y 3) 3)) u (λv u2=>u=u2/\v=.int .i64 (IntKind.i64.wrap (m+n))):=by
 refine .ok (v:=.int .i64 (IntKind.i64.wrap (m+n))) (u2:=u) (es:= #[]) (Nat.le_refl _) (λτ=> ?_) (λτ=> ?_) ⟨rfl,rfl⟩
 ·simp[execOp,dK,hx,hy,go_sem]
 ·simp[execOp,dK,hx,hy,go_sem]
theorem ags(x y:Operand){m n:Int}(hx:ρ x=.int .i64 m)(hy:ρ y=.int .i64 n):qh (ah H) (execOp ρ (dK d (.binOp .lss 3 x y 3) 4)) u (λv u2=>u=u2/\v=.bool (decide (m<n))):=by
 refine .ok (v:=.bool (decide (m<n))) (u2:=u) (es:= #[]) (Nat.le_refl _) (λτ=> ?_) (λτ=> ?_) ⟨rfl,rfl⟩
 ·simp[execOp,dK,hx,hy,go_sem]
 ·simp[execOp,dK,hx,hy,go_sem]
theorem WV(x:Operand){v:Value}(hx:ρ x=v)(t:TypeId):qh (ah H) (execOp ρ (dK d (.move x) t)) u (λv' u2=>u=u2/\v'=v):=by
 refine .ok (v:=v) (u2:=u) (es:= #[]) (Nat.le_refl _) (λτ=> ?_) (λτ=> ?_) ⟨rfl,rfl⟩
 ·simp[execOp,dK,hx,go_sem]
 ·simp[execOp,dK,hx,go_sem]
theorem JR(x:Operand){v:Value}(hx:ρ x=v)(t:TypeId):qh (ah H) (execOp ρ (dK d (.assign x) t)) u (λv' u2=>u=u2/\v'=v):=by
 refine .ok (v:=v) (u2:=u) (es:= #[]) (Nat.le_refl _) (λτ=> ?_) (λτ=> ?_) ⟨rfl,rfl⟩
 ·simp[execOp,dK,hx,go_sem]
 ·simp[execOp,dK,hx,go_sem]
theorem agt:qh (ah H) (execOp ρ (dK d (.alloc 257) 0)) u (λv u2=>u2=u.alloc dG/\v=.pointer (some ⟨u.heap.size,0,none⟩)):=by
 refine .ok (v:=.pointer (some ⟨u.heap.size,0,none⟩)) (u2:=u.alloc dG) (es:= #[]) (show u.drawn<=(u.alloc dG).drawn from Nat.le_refl _) (λτ=> ?_) (λτ=> ?_) ⟨rfl,rfl⟩
 ·simp[execOp,dK,go_sem]
  exact⟨rfl,rfl⟩
 ·simp[execOp,dK,go_sem]
theorem SE{p:Addr}{c:Array Value}{e:TypeId}{f:Nat×Nat}(ho:u.heap[p.block]? =some (.cells c e f))(hc:u.cell? p=none)(at':Bool):∃h,cZ h/\u.farLoad (ah H) p at'=.error h:=by
 unfold World.farLoad
 rw[ho]
 dsimp only
 refine⟨_,?_,rfl⟩
 simp[World.noCell,ho,cZ]
theorem aay(x:Operand){p:Addr}(hx:ρ x=.pointer (some p))(hr:zX u p.block):qh (ah H) (execOp ρ (dK d (.load 3 x) 3)) u (λv u2=>u=u2/\((∃w,u.cell? p=some w)\/∃a t,u.heap[p.block]? =some (.view a t))):=by
 have hcell:∀τ,(tp u τ).cell? p=u.cell? p:=λ_=>rfl
 cases hc:u.cell? p with
 |some v=>
  refine .ok (v:=v) (u2:=u) (es:= #[⟨.cell p,false,false⟩]) (Nat.le_refl _) (λτ=> ?_) (λτ=> ?_) ⟨rfl,.inl ⟨v,rfl⟩⟩
  ·simp[execOp,dK,hx,Instr.loadAt,Instr.sureAddr,go_sem,hcell,hc]
  ·simp[execOp,dK,hx,Instr.loadAt,Instr.sureAddr,go_sem,hcell,hc]
 |none=>
  have o8:∀τ,(tp u τ).farLoad (ah H) p (Mode.plain==Mode.atomic)=u.farLoad (ah H) p (Mode.plain==Mode.atomic):=λτ=>lK _ _ _ _ τ
  cases hfl:u.farLoad (ah H) p (Mode.plain==Mode.atomic)with
  |error e=>
   have hbad:cZ e:=by
    unfold World.farLoad at hfl
    rcases hr with⟨c,e',f,ho⟩|⟨a',t,ho⟩|⟨o,ho,hm⟩
    ·rw[ho]at hfl
     cases hfl
     simp[World.noCell,ho,cZ]
    ·rw[ho]at hfl
     dsimp only at hfl
     split at hfl
     ·cases hfl
     ·cases hfl;trivial
    ·rw[ho]at hfl
     rcases hm with⟨a',l,rfl⟩|hm
     ·cases hfl
      simp[World.noCell,ho,cZ]
     ·cases o<;>first|(cases hm;done)|(cases hfl;simp[World.noCell,ho,cZ])
   refine .inl λτ=> ?_
   simp[execOp,dK,hx,Instr.loadAt,Instr.sureAddr,go_sem,hcell,hc,o8,hfl]
   exact hbad
  |ok r=>
   have hv:∃a t,u.heap[p.block]? =some (.view a t):=by
    unfold World.farLoad at hfl
    rcases hr with⟨c,e',f,ho⟩|⟨a',t,ho⟩|⟨o,ho,hm⟩
    ·rw[ho]at hfl;cases hfl
    ·exact⟨a',t,ho⟩
    ·rw[ho]at hfl
     rcases hm with⟨a',l,rfl⟩|hm
     ·cases hfl
     ·cases o<;>first|(cases hm;done)|cases hfl
   refine .ok (v:=r.1) (u2:=u) (es:=(execOp ρ (dK d (.load 3 x) 3)).events (ah H) u #[]) (Nat.le_refl _) (λτ=> ?_) (λτ=> ?_) ⟨rfl,.inr hv⟩
   ·simp[execOp,dK,hx,Instr.loadAt,Instr.sureAddr,go_sem,hcell,hc,o8,hfl]
   ·simp[execOp,dK,hx,Instr.loadAt,Instr.sureAddr,go_sem,hcell,hc,o8,hfl]
theorem aaz(x y:Operand){p q:Addr}(hx:ρ x=.pointer (some p))(hy:ρ y=.pointer (some q))(hq:u.heap[q.block]? =some dG)(hne:p.block≠q.block)(hl:(∃w,u.cell? p=some w)\/∃a t,u.heap[p.block]? =some (.view a t)):
  qh (ah H) (execOp ρ (dK d (.binOp .eql 274 x y 274) 4)) u (λv u2=>u=u2/\∃c e f,u.heap[p.block]? =some (.cells c e f)):=by
 rcases hl with⟨v,hc⟩|⟨a,t,hv⟩
 ·obtain⟨c,e,f,ho,hs⟩:∃c e f,u.heap[p.block]? =some (.cells c e f)/\c.size≠0:=by
   unfold World.cell? at hc
   cases ho:u.heap[p.block]? with
   |none=>rw[ho]at hc;simp at hc
   |some o=>
    rw[ho]at hc
    cases o<;>first|(simp at hc;done)|skip
    rename_i c e f
    refine⟨c,e,f,rfl,λh0=> ?_⟩
    dsimp only at hc
    split at hc
    ·cases hc
    ·have:=(Array.getElem?_eq_some_iff.1 hc).1
     omega
  refine .ok (v:=.bool false) (u2:=u) (es:= #[]) (Nat.le_refl _) (λτ=> ?_) (λτ=> ?_) ⟨rfl,c,e,f,ho⟩
  ·have h6:=((uM (H:=H) 9999 p q (tp u τ)).1).trans (rF (w:=tp u τ) hq hne ho hs).1
   simp[execOp,dK,hx,hy,binOp,Op.equal,Op.maxDepth,go_sem]
   rw[h6]
   rfl
  ·have h6:=((uM (H:=H) 9999 p q (tp u τ)).2).trans (rF (w:=tp u τ) hq hne ho hs).2
   simp[execOp,dK,hx,hy,binOp,Op.equal,Op.maxDepth,go_sem]
   exact h6
 ·refine .inl λτ=> ?_
  have h6:=((uM (H:=H) 9999 p q (tp u τ)).1).trans (EL (w:=tp u τ) hne hv)
  simp[execOp,dK,hx,hy,binOp,Op.equal,Op.maxDepth,go_sem]
  exact⟨.unsupported (.unsafePointer "memory seen as another type"),trivial,_,by rw[h6];rfl⟩
theorem aaA(x:Operand){p:Addr}{c:Array Value}{e:TypeId}{f:Nat×Nat}(hx:ρ x=.pointer (some p))(ho:u.heap[p.block]? =some (.cells c e f)):
  qh (ah H) (execOp ρ (dK d (.load 178 x) 178)) u (λv u2=>u=u2/\∃v0 v1 v2,u.cell? p=some v0/\u.cell? ⟨p.block,p.off+1,none⟩=some v1/\u.cell? ⟨p.block,p.off+2,none⟩=some v2/\v=.agg #[v0,v1,v2]):=by
 have hcell:∀a τ,(tp u τ).cell? a=u.cell? a:=λ_ _=>rfl
 have o8:∀a τ,(tp u τ).farLoad (ah H) a (Mode.plain==Mode.atomic)=u.farLoad (ah H) a (Mode.plain==Mode.atomic):=λa τ=>lK _ _ _ _ τ
 have hmiss:∀a:Addr,a.block=p.block->u.cell? a=none->∃h,cZ h/\u.farLoad (ah H) a (Mode.plain==Mode.atomic)=.error h:=λa ha hn=>SE (c:=c) (e:=e) (f:=f) (by rw[ha];exact ho) hn _
 cases h0:u.cell? p with
 |none=>
  obtain⟨h,hbad,hf⟩:=hmiss _ rfl h0
  refine .inl λτ=> ?_
  simp[execOp,dK,hx,Instr.loadAt,Instr.sureAddr,loadVar,loadCells,loadCellsFrom,go_sem,hcell,h0,o8,hf]
  exact hbad
 |some v0=>
  cases h1:u.cell? ⟨p.block,p.off+1,none⟩with
  |none=>
   obtain⟨h,hbad,hf⟩:=hmiss ⟨p.block,p.off+1,none⟩ rfl h1
   refine .inl λτ=> ?_
   simp[execOp,dK,hx,Instr.loadAt,Instr.sureAddr,loadVar,loadCells,loadCellsFrom,go_sem,hcell,h0,h1,o8,hf]
   exact hbad
  |some v1=>
   cases h2:u.cell? ⟨p.block,p.off+2,none⟩with
   |none=>
    obtain⟨h,hbad,hf⟩:=hmiss ⟨p.block,p.off+2,none⟩ rfl h2
    refine .inl λτ=> ?_
    simp[execOp,dK,hx,Instr.loadAt,Instr.sureAddr,loadVar,loadCells,loadCellsFrom,go_sem,hcell,h0,h1,h2,o8,hf]
    exact hbad
   |some v2=>
    refine .ok (v:=.agg #[v0,v1,v2]) (u2:=u) (es:=(execOp ρ (dK d (.load 178 x) 178)).events (ah H) u #[]) (Nat.le_refl _) (λτ=> ?_) (λτ=> ?_) ⟨rfl,v0,v1,v2,rfl,rfl,rfl,rfl⟩
    ·simp[execOp,dK,hx,Instr.loadAt,Instr.sureAddr,loadVar,loadCells,loadCellsFrom,go_sem,hcell,h0,h1,h2]
    ·simp[execOp,dK,hx,Instr.loadAt,Instr.sureAddr,loadVar,loadCells,loadCellsFrom,go_sem,hcell,h0,h1,h2]
end
end Go.Proofs.YtlncengggmgdgaaGreat.par
