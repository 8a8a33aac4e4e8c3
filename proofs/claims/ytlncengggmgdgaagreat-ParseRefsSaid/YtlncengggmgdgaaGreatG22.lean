/- The sums that hold: what main_law asks of cut.holds. No conditions. -/
import Derived.Test.YtlncengggmgdgaaGreatG20
import Derived.Test.YtlncengggmgdgaaGreatG21
import Derived.Test.YtlncengggmgdgaaGreatG18
import Derived.Test.YtlncengggmgdgaaGreatBase
set_option linter.unusedVariables false
set_option linter.unusedSimpArgs false
set_option maxRecDepth 100000
namespace Go.Proofs.YtlncengggmgdgaaGreat.par
open Go Go.Conc
theorem aaG:∀s:ByteArray,s.size<1000000000000->tN s (fr.zI s):=by
 intro s hs c w h0 h1 h2 h3
 obtain⟨a,b,n,rfl,h4,h5⟩:=fr.Ql h0 h1 h2 h3
 exact(fr.yH (HC:=Hm) s a b n w hs h4 h5).mono λe w' he=>⟨_,he.1,rfl,he.2⟩
theorem Xk:∀(s:ByteArray)(c:Int×Int×Int)(u:World),s.size<1000000000000->0<=c.1->0<=c.2.1->c.1<=c.2.2->c.2.2+4<=(s.size:Int)->Calls (ah Hw) 138 #[.agg #[.int .i64 c.1,.int .i64 c.2.1,.int .i64 c.2.2],.string s] u (λe _=>e=.returned (.bool (fr.zI s c))):=by
 intro s c w hs h0 h1 h2 h3
 obtain⟨a,b,n,rfl,h4,h5⟩:=fr.Ql h0 h1 h2 h3
 exact(fr.yH (HC:=Hw) s a b n w hs h4 h5).mono λe w' he=>he.1
end Go.Proofs.YtlncengggmgdgaaGreat.par
namespace Go.Proofs.YtlncengggmgdgaaGreat.par
open Go Go.Conc
theorem GZ:yg Hm=true:=by unfold Hm;rfl
@[go_sem] theorem ad7:(ah Hm).funcs[57]? =some Tryz.f57:=adp GZ
@[go_sem] theorem Xl:(ah Hm).funcs[86]? =some Tryz.f86:=adF GZ
@[go_sem] theorem Xm:(ah Hm).funcs[88]? =some Tryz.f88:=adH GZ
@[go_sem] theorem Xn:(ah Hm).funcs[89]? =some Tryz.f89:=adI GZ
@[go_sem] theorem Xo:(ah Hm).funcs[99]? =some Tryz.f99:=adQ GZ
@[go_sem] theorem aaH:(ah Hm).funcs[103]? =some Tryz.f103:=ZJ GZ
@[go_sem] theorem Qm:(ah Hm).funcs[143]? =some Tryz.f143:=Z8 GZ
@[go_sem] theorem aaI:(ah Hm).funcs[174]? =some Tryz.f174:=aah GZ
@[go_sem] theorem aaJ:(ah Hm).funcs[175]? =some Tryz.f175:=aai GZ
end Go.Proofs.YtlncengggmgdgaaGreat.par
namespace Go.Proofs.YtlncengggmgdgaaGreat.hd
open Go.RowKit
attribute [local irreducible] par.ah
def fU(s p:Int):Bool:=decide (0<=s/\s<=255/\0<=p/\p<=s)
theorem J8{s p:Int}(h:fU s p=true):0<=s/\s<=255/\0<=p/\p<=s:=by simpa [fU]using h
def jW(s p:Int):Int:=if fU s p then 2*s+131072*p else 0
def rU(s p:Int):Int:=if fU s p then 0 else 1
def oO(w:Int):Bool:=decide (w%2=0)&&fU (w/2%65536) (w/131072)
def Qn(w:Int):Int:=if oO w then w/2%65536 else 0
def Xp(w:Int):Int:=if oO w then w/131072 else 0
def UF(w:Int):Int:=if oO w then 0 else 3
def lC(a:Int):Bool:=decide (1<=a/\a<=9223372036854775807)
def uj(a:Int):Int:=if lC a then 2*a+1 else 0
def um(a:Int):Int:=if lC a then 0 else 1
def uo(w:Int):Int:=if w%2=0\/w=1 then 0 else w/2
def Oa(w:Int):Int:=if w=0 then 6 else if w%2=0\/w=1 then 3 else 0
theorem tV(s p:Int)(w:World):
  Calls (par.ah par.Hm) 109 #[.agg #[.int .i64 s,.int .i64 p]] w λe w'=>e=.returned (.bool (fU s p))/\Below w.heap.size w w':=by
 go_enter (par.ZM (H:=par.Hm)),Tryz.ntmps109
 go_wp2
 all_goals go_ret
 all_goals exact adT (by unfold fU;rw[Bool.eq_iff_iff];simp;try omega) ((Below.refl _ _).alloc (Nat.le_refl _) _)
theorem yI(s p:Int)(w:World):
  Calls (par.ah par.Hm) 94 #[.agg #[.int .i64 s,.int .i64 p]] w λe w'=>e=.returned (.bool (fU s p))/\Below w.heap.size w w':=by
 go_enter (par.adL (H:=par.Hm)),Tryz.ntmps94
 go_wp2
 all_goals go_ret
 all_goals exact adT (by unfold fU;rw[Bool.eq_iff_iff];simp;try omega) ((Below.refl _ _).alloc (Nat.le_refl _) _)
theorem Xq(s p:Int)(w:World):
  Calls (par.ah par.Hm) 127 #[.agg #[.int .i64 s,.int .i64 p]] w λe w'=>e=.returned (.tuple #[.int .u64 (jW s p),.int .i64 (rU s p)])/\Below w.heap.size w w':=by
 rcases hr:fU s p with _|_
 ·go_enter (par.P6 (H:=par.Hm)),Tryz.ntmps127
  go_wp2_with (go_at_call 109;refine(tV _ _ _).mono ?_;rintro e w1 ⟨rfl,hb⟩)
  go_ret2
  exact zG (by simp[jW,hr]) (by simp[rU,hr]) (((Below.refl _ _).alloc (Nat.le_refl _) _).trans (hb.mono (by simp)))
 ·obtain⟨h1,h2,h3,h4⟩:=J8 hr
  go_enter (par.P6 (H:=par.Hm)),Tryz.ntmps127
  go_wp2_with fail
  refine(tV _ _ _).mono ?_;rintro e w1 ⟨rfl,hb⟩
  obtain⟨hc,hf⟩:=Fa hb
  go_wp2_with fail
  go_ret2
  exact zG (by simp[jW,hr];try omega) (by simp[rU,hr]) (((Below.refl _ _).alloc (Nat.le_refl _) _).trans (hb.mono (by simp)))
theorem J9(s p:Int)(w:World):
  Calls (par.ah par.Hm) 49 #[.agg #[.int .i64 s,.int .i64 p]] w λe w'=>e=.returned (.tuple #[.int .u64 (jW s p),.int .i64 (rU s p)])/\Below w.heap.size w w':=by
 rcases hr:fU s p with _|_
 ·go_enter (par.WM (H:=par.Hm)),Tryz.ntmps49
  go_wp2_with (go_at_call 94;refine(yI _ _ _).mono ?_;rintro e w1 ⟨rfl,hb⟩)
  go_ret2
  exact zG (by simp[jW,hr]) (by simp[rU,hr]) (((Below.refl _ _).alloc (Nat.le_refl _) _).trans (hb.mono (by simp)))
 ·obtain⟨h1,h2,h3,h4⟩:=J8 hr
  go_enter (par.WM (H:=par.Hm)),Tryz.ntmps49
  go_wp2_with fail
  refine(yI _ _ _).mono ?_;rintro e w1 ⟨rfl,hb⟩
  obtain⟨hc,hf⟩:=Fa hb
  go_wp2_with fail
  go_ret2
  exact zG (by simp[jW,hr];try omega) (by simp[rU,hr]) (((Below.refl _ _).alloc (Nat.le_refl _) _).trans (hb.mono (by simp)))
theorem xg{a:Int}(h:lC a=true):1<=a/\a<=9223372036854775807:=by simpa [lC]using h
theorem Qo(a:Int)(w:World)(h1:0<=a)(h2:a<18446744073709551616):
  Calls (par.ah par.Hm) 61 #[.int .u64 a] w λe w'=>e=.returned (.tuple #[.int .u64 (uj a),.int .i64 (um a)])/\w=w':=by
 go_enter (par.ads (H:=par.Hm)),Tryz.ntmps61
 go_wp2
 all_goals go_ret2
 all_goals exact zG (by simp only[uj,lC,decide_eq_true_eq];((try simp only[beq_iff_eq,beq_eq_false_iff_ne,ne_eq]at*);(repeat' split)<;>omega)) (by simp only[um,lC,decide_eq_true_eq];((try simp only[beq_iff_eq,beq_eq_false_iff_ne,ne_eq]at*);(repeat' split)<;>omega)) rfl
theorem Oe(a:Int)(w:World)(h1:0<=a)(h2:a<18446744073709551616):
  Calls (par.ah par.Hm) 25 #[.int .u64 a] w λe w'=>e=.returned (.tuple #[.int .u64 (uj a),.int .i64 (um a)])/\w=w':=by
 go_enter (par.ac8 (H:=par.Hm)),Tryz.ntmps25
 go_wp2
 all_goals go_ret2
 all_goals exact zG (by simp only[uj,lC,decide_eq_true_eq];((try simp only[beq_iff_eq,beq_eq_false_iff_ne,ne_eq]at*);(repeat' split)<;>omega)) (by simp only[um,lC,decide_eq_true_eq];((try simp only[beq_iff_eq,beq_eq_false_iff_ne,ne_eq]at*);(repeat' split)<;>omega)) rfl
theorem C9(a:Int)(w:World)(h1:0<=a)(h2:a<18446744073709551616):
  Calls (par.ah par.Hm) 63 #[.int .u64 a] w λe w'=>e=.returned (.tuple #[.int .u64 (uo a),.int .i64 (Oa a)])/\w=w':=by
 go_enter (par.adt (H:=par.Hm)),Tryz.ntmps63
 go_wp2
 all_goals go_ret2
 all_goals exact zG (by unfold uo;((try simp only[beq_iff_eq,beq_eq_false_iff_ne,ne_eq]at*);(repeat' split)<;>omega)) (by unfold Oa;((try simp only[beq_iff_eq,beq_eq_false_iff_ne,ne_eq]at*);(repeat' split)<;>omega)) rfl
theorem nS(a:Int)(w:World)(h1:0<=a)(h2:a<18446744073709551616):
  Calls (par.ah par.Hm) 83 #[.int .u64 a] w λe w'=>e=.returned (.tuple #[.int .u64 (uo a),.int .i64 (Oa a)])/\w=w':=by
 go_enter (par.adD (H:=par.Hm)),Tryz.ntmps83
 go_wp2
 all_goals go_ret2
 all_goals exact zG (by unfold uo;((try simp only[beq_iff_eq,beq_eq_false_iff_ne,ne_eq]at*);(repeat' split)<;>omega)) (by unfold Oa;((try simp only[beq_iff_eq,beq_eq_false_iff_ne,ne_eq]at*);(repeat' split)<;>omega)) rfl
theorem Qp{a:Int}{b:Bool}(h:a%2=0)(hb:(!fU (a/2%65536) (a/131072))=b):oO a= !b:=by
 rw[<-hb];simp[oO,h]
theorem Xr{a:Int}(h:¬a%2=0):oO a=false:=by simp[oO,h]
theorem Dc(a:Int)(w:World)(h1:0<=a)(h2:a<18446744073709551616):
  Calls (par.ah par.Hm) 187 #[.int .u64 a] w λe w'=>e=.returned (.tuple #[.agg #[.int .i64 (Qn a),.int .i64 (Xp a)],.int .i64 (UF a)])/\Below w.heap.size w w':=by
 by_cases h3:a%2=0
 ·go_enter (par.Qd (H:=par.Hm)),Tryz.ntmps187
  go_wp2_with fail
  refine(tV _ _ _).mono ?_;rintro e w1 ⟨rfl,hb⟩
  obtain⟨hbc,hbf⟩:=Fa hb
  have hbz:=hb.size
  go_wp2_with fail
  ·rename_i hq
   have hu:=Qp h3 hq
   refine bodyPost_ret (v:=.tuple #[.agg #[.int .i64 0,.int .i64 0],.int .i64 3]) (by simp only[results,Tryz.results187];go_simp) rfl ⟨?_,?_⟩
   ·simp[Qn,Xp,UF,hu]
   ·exact bm
  ·rename_i hq
   have hu:=Qp h3 hq
   refine bodyPost_ret (v:=.tuple #[.agg #[.int .i64 (a/2%65536),.int .i64 (a/131072)],.int .i64 0]) (by simp only[results,Tryz.results187];go_simp) rfl ⟨?_,?_⟩
   ·simp[Qn,Xp,UF,hu]
   ·exact bm
 ·have hu:=Xr h3
  go_enter (par.Qd (H:=par.Hm)),Tryz.ntmps187
  go_wp2_with fail
  refine bodyPost_ret (v:=.tuple #[.agg #[.int .i64 0,.int .i64 0],.int .i64 3]) (by simp only[results,Tryz.results187];go_simp) rfl ⟨?_,?_⟩
  ·simp[Qn,Xp,UF,hu]
  ·exact bm
theorem Xt(s p:Int):rU s p=0↔fU s p=true:=by unfold rU;split<;>simp_all
theorem Xu{a:Int}(h1:0<=a)(h2:a<18446744073709551616):oO a=decide (rU (a/2%65536) (a/131072%65536)=0/\jW (a/2%65536) (a/131072%65536)=a):=by
 rw[Bool.eq_iff_iff,decide_eq_true_eq,Xt]
 simp only[oO,fU,jW,Bool.and_eq_true,decide_eq_true_eq]
 constructor
 ·intro h
  have e:a/131072%65536=a/131072:=by omega
  rw[e,if_pos (by omega)]
  omega
 ·rintro⟨h,k⟩
  rw[if_pos h]at k
  omega
theorem aaK{a:Int}(h1:0<=a)(h2:a<18446744073709551616)(h:oO a=true):a/131072%65536=a/131072:=by
 simp only[oO,fU,Bool.and_eq_true,decide_eq_true_eq]at h;omega
theorem Ec(a:Int)(w:World)(h1:0<=a)(h2:a<18446744073709551616):
  Calls (par.ah par.Hm) 96 #[.int .u64 a] w λe w'=>e=.returned (.tuple #[.agg #[.int .i64 (Qn a),.int .i64 (Xp a)],.int .i64 (UF a)])/\Below w.heap.size w w':=by
 have g1:0<=jW (a/2%65536) (a/131072%65536):=by unfold jW fU;split<;>simp_all<;>omega
 have HO:=Lib.hid (Xu h1 h2)
 have HP:=Lib.hid (aaK h1 h2)
 go_enter (par.adN (H:=par.Hm)),Tryz.ntmps96
 go_wp2_with fail
 refine(J9 _ _ _).mono ?_;rintro e w1 ⟨rfl,hb⟩
 obtain⟨hbc,hbf⟩:=Fa hb
 have hbz:=hb.size
 go_wp2_with fail
 ·rename_i hq1 hq2
  have hu:oO a=false:=by rw[HO.out];simp at hq2⊢;intro _;exact hq2
  refine bodyPost_ret (v:=.tuple #[.agg #[.int .i64 0,.int .i64 0],.int .i64 3]) (by simp only[results,Tryz.results96];go_simp) rfl ⟨?_,?_⟩
  ·simp[Qn,Xp,UF,hu]
  ·exact bm
 ·rename_i hq1 hq2
  have hu:oO a=true:=by rw[HO.out];simp at hq2⊢;exact⟨hq1,hq2⟩
  refine bodyPost_ret (v:=.tuple #[.agg #[.int .i64 (a/2%65536),.int .i64 (a/131072%65536)],.int .i64 0]) (by simp only[results,Tryz.results96];go_simp) rfl ⟨?_,?_⟩
  ·have:=HP.out hu;simp[Qn,Xp,UF,hu,this]
  ·exact bm
 ·rename_i hq1
  have hu:oO a=false:=by rw[HO.out];simp[hq1]
  refine bodyPost_ret (v:=.tuple #[.agg #[.int .i64 0,.int .i64 0],.int .i64 3]) (by simp only[results,Tryz.results96];go_simp) rfl ⟨?_,?_⟩
  ·simp[Qn,Xp,UF,hu]
  ·exact bm
end Go.Proofs.YtlncengggmgdgaaGreat.hd
namespace Go.Proofs.YtlncengggmgdgaaGreat.ob
open Go.RowKit hd
attribute [local irreducible] par.ah
def Kq(x:Int):Bool:=decide (x=0\/(x%2=1/\x≠1))
theorem Qq(x:Int):Kq x=(decide (x=0)||decide (Oa x=0)):=by
 unfold Kq Oa
 rw[Bool.eq_iff_iff]
 simp
 repeat' split
 all_goals omega
theorem Kt(x:Int)(w:World)(h1:0<=x)(h2:x<18446744073709551616):
  Calls (par.ah par.Hm) 188 #[.int .u64 x] w λe w'=>e=.returned (.bool (Kq x))/\w=w':=by
 have HP:=Lib.hid (Qq x)
 go_enter (par.aam (H:=par.Hm)),Tryz.ntmps188
 go_wp2_with fail
 refine(C9 x _ h1 h2).mono ?_;rintro e ww ⟨rfl,rfl⟩
 generalize Oa x=E at*
 go_wp2_with fail
 all_goals go_ret
 all_goals (refine⟨?_,rfl⟩;rw[HP.out];simp_all;try rw[Bool.eq_iff_iff];try simp_all)
def rV(k:Int):Value:=.iface 210 (.agg #[.int .i64 k])
structure Ob where
 pos:Int
 s:Int
 p:Int
 g:Bool
 t:Int
def oV(o:Ob):Value:=.agg #[.int .i64 o.pos,.int .i64 o.s,.int .i64 o.p,.bool o.g,.int .u64 o.t]
theorem ad8(W:World):Sem.run (par.ah par.Hm) (binOp .neq 208 .nilFunc .nilFunc) W=.ok (.bool false) W:=by kernel_rfl
def Tj(pos:Nat)(x:Int)(e:Ending):Prop:=oO x=true/\e=.returned (oV ⟨pos,Qn x,Xp x,false,0⟩)\/oO x=false/\e=.panicked [{v:=rV 3,recovered:=false}]
set_option maxHeartbeats 1000000 in
theorem Tm(b off len cap pos:Nat)(x:Int)(w:World)(hp:pos<len)(hl:len<9223372036854775808)(hx:w.cell? ⟨b,off+pos,none⟩=some (.int .u64 x))(h1:0<=x)(h2:x<18446744073709551616):
  Calls (par.ah par.Hm) 174 #[.slice (some ⟨b,off,none⟩) len cap,.int .i64 pos,.nilFunc] w λe w'=>Tj pos x e/\Below w.heap.size w w':=by
 have hlt:b<w.heap.size:=World.block_lt_of_cell? _ _ hx
 have hn0:b≠w.heap.size:=by omega
 have hn1:b≠w.heap.size+1:=by omega
 have hs0:b<w.heap.size+1:=by omega
 have hs1:b<w.heap.size+1+1:=by omega
 go_enter par.aaI,Tryz.ntmps174
 go_wp2_with fail
 refine(C9 x _ h1 h2).mono ?_;rintro e ww ⟨rfl,rfl⟩
 have hnn:=ad8
 rcases hu:oO x with _|_
 ·have hE:UF x=3:=by simp[UF,hu]
  go_wp2_with fail
  refine(Dc x _ h1 h2).mono ?_;rintro e w1 ⟨rfl,k1⟩
  rw[hE]
  go_wp2_with fail
  refine⟨rfl,.inr ⟨hu,rfl⟩,?_⟩
  exact bm
 ·have hE:UF x=0:=by simp[UF,hu]
  go_wp2_with fail
  refine(Dc x _ h1 h2).mono ?_;rintro e w1 ⟨rfl,k1⟩
  rw[hE]
  have Ko:aW w1 (w.heap.size+1) #[.int .i64 pos,.int .i64 0,.int .i64 0,.bool false,.int .u64 0] 56:=aW.tr (by exact bk) k1
  have Kr:aW w1 w.heap.size #[.int .i64 0,.int .i64 0,.int .i64 0,.bool false,.int .u64 0] 56:=aW.tr (by exact bk) k1
  obtain⟨lo,co,fo⟩:=Ko.get
  obtain⟨lr,cr,fr⟩:=Kr.get
  go_wp2_with fail
  refine bodyPost_ret (v:=oV ⟨pos,Qn x,Xp x,false,0⟩) (by simp only[results,Tryz.results174];go_simp;rfl) rfl ⟨.inl ⟨hu,rfl⟩,?_⟩
  exact bm
def iE(o:Ob)(i:Nat)(x:Int):Bool:=if o.g then decide (x=0)else(!decide ((i:Int)<o.p)||Kq x)
def nT(o:Ob)(zs:List Int)(k:Nat):Prop:=∀i,i<k->iE o i (zs.getD (o.pos.toNat+1+i) 0)=true
def Xv(o:Ob)(pos S len:Nat)(zs:List Int)(e:Ending):Prop:=len<pos+1+S/\e=.panicked [{v:=rV 2,recovered:=false}]\/pos+1+S<=len/\nT o zs S/\e=.returned (.tuple #[])\/pos+1+S<=len/\¬nT o zs S/\e=.panicked [{v:=rV 3,recovered:=false}]
theorem He{o:Ob}{zs:List Int}{k:Nat}(h:nT o zs k):iE o k (zs.getD (o.pos.toNat+1+k) 0)=true->nT o zs (k+1):=λg i hi=>by
 by_cases e:i<k
 ·exact h i e
 ·obtain rfl:i=k:=by omega
  exact g
theorem Ku{o:Ob}{zs:List Int}{k n:Nat}(h:k<n):iE o k (zs.getD (o.pos.toNat+1+k) 0)=false->¬nT o zs n:=λg q=>by
 have:=q k h;rw[g]at this;cases this
set_option maxHeartbeats 2000000 in
theorem Df(b off len cap pos S:Nat)(p t:Int)(g:Bool)(zs:List Int)(w:World)(hp:pos<len)(hc:len<=cap)(hl:cap<9223372036854775808)(hS:S<=255)(hx:∀i,i<len->w.cell? ⟨b,off+i,none⟩=some (.int .u64 (zs.getD i 0)))(hz:∀i,0<=zs.getD i 0/\zs.getD i 0<18446744073709551616):
  Calls (par.ah par.Hm) 175 #[.slice (some ⟨b,off,none⟩) len cap,oV ⟨pos,S,p,g,t⟩] w λe w'=>Xv ⟨pos,S,p,g,t⟩ pos S len zs e/\Below w.heap.size w w':=by
 have hx0:=hx pos hp
 have hlt:b<w.heap.size:=World.block_lt_of_cell? _ _ hx0
 have hn0:b≠w.heap.size:=by omega
 have hs0:b<w.heap.size+1:=by omega
 unfold oV
 go_enter par.aaJ,Tryz.ntmps175
 clear hx0
 have HX:=Lib.hid hx
 have HZ:=Lib.hid hz
 clear hx hz
 by_cases hcap:cap=pos+1
 ·obtain rfl:len=cap:=by omega
  subst hcap
  by_cases hS0:S=0
  ·subst hS0
   go_wp2_with fail
   go_loop [26] (λi=>i=.int .i64 0) (λ_=>0)
   case atStart=>rfl
   case round=>
    subst hrel
    go_wp2_with fail
    go_end0
    refine⟨.inr (.inl ⟨by omega,λi hi=>by omega,rfl⟩),?_⟩
    exact bm
  ·have h1:(0:Int)<(S:Int):=by omega
   go_wp2_with fail
   refine⟨rfl,.inl ⟨by omega,rfl⟩,?_⟩
   exact bm
 ·have hcp:0<cap-(pos+1):=by omega
  by_cases hsh:len<pos+1+S
  ·have h1:(((len-(pos+1):Nat):Int))<(S:Int):=by omega
   go_wp2_with fail
   refine⟨rfl,.inl ⟨by omega,rfl⟩,?_⟩
   exact bm
  ·have h1:¬(((len-(pos+1):Nat):Int))<(S:Int):=by omega
   clear h1
   have hSl:S<=len-(pos+1):=by omega
   go_wp2_with fail
   rw[show decide (len-(pos+1)<S)=false from decide_eq_false (by omega)]
   go_loop [26] (λi=>∃k:Nat,k<=S/\i=.int .i64 k/\Hid (nT ⟨pos,S,p,g,t⟩ zs k)) (λi=>S-(intOf i).toNat)
   case atStart=>exact⟨0,Nat.zero_le _,rfl,λi hi=>by omega⟩
   case round=>
    obtain⟨k,hk,rfl,hok⟩:=hrel
    by_cases hlk:k<S
    ·have hxk:=HX.out (pos+1+k) (by omega)
     have hzk:=HZ.out (pos+1+k)
     rw[show off+(pos+1+k)=off+(pos+1)+k from by omega]at hxk
     have HG:=Lib.hid (He (o:=⟨pos,S,p,g,t⟩) (zs:=zs) hok.out)
     have HB:=Lib.hid (Ku (o:=⟨pos,S,p,g,t⟩) (zs:=zs) (n:=S) hlk)
     simp only[Int.toNat_natCast]at HG HB
     generalize zs.getD (pos+1+k) 0=x at*
     have Kv:S-(intOf (.int .i64 ((k:Int)+1))).toNat<S-(intOf (.int .i64 (k:Int))).toNat:=by simp[intOf];omega
     cases g with
     |true=>
      by_cases hx0:x=0
      ·have hxb:(x==0)=true:=by simp[hx0]
       go_wp2_with fail
       exact⟨⟨k+1,by omega,by go_num,HG.out (by simp[iE,hx0])⟩,by simp[intOf];omega⟩
      ·have hxb:(x==0)=false:=by simp[hx0]
       go_wp2_with fail
       refine⟨rfl,.inr (.inr ⟨by omega,HB.out (by simp[iE,hx0]),rfl⟩),?_⟩
       exact bm
     |false=>
      by_cases hkp:(k:Int)<p
      ·have hkd:decide ((k:Int)<p)=true:=decide_eq_true hkp
       go_wp2_with fail
       refine(Kt x _ hzk.1 hzk.2).mono ?_;rintro e ww ⟨rfl,rfl⟩
       rcases hpb:Kq x with _|_
       ·go_wp2_with fail
        refine⟨rfl,.inr (.inr ⟨by omega,HB.out (by simp[iE,hkp,hpb]),rfl⟩),?_⟩
        exact bm
       ·go_wp2_with fail
        exact⟨⟨k+1,by omega,by go_num,HG.out (by simp[iE,hpb])⟩,by simp[intOf];omega⟩
      ·have hkd:decide ((k:Int)<p)=false:=decide_eq_false hkp
       go_wp2_with fail
       exact⟨⟨k+1,by omega,by go_num,HG.out (by simp[iE,hkp])⟩,by simp[intOf];omega⟩
    ·obtain rfl:k=S:=by omega
     go_wp2_with fail
     go_end0
     refine⟨.inr (.inl ⟨by omega,hok.out,rfl⟩),?_⟩
     exact bm
end Go.Proofs.YtlncengggmgdgaaGreat.ob
namespace Go.Proofs.YtlncengggmgdgaaGreat.fr
open Go.RowKit cm cw par
attribute [local irreducible] par.ah
abbrev Cut:=Nat×Nat×Nat
def Fj(c:Cut):Int×Int×Int:=((c.1:Int),(c.2.1:Int),(c.2.2:Int))
def Xw(w:World)(v:Value)(cs:List Cut):Prop:=
 ∃(ad:Option Addr)(cap:Nat),v=.slice ad cs.length cap/\cs.length<=cap/\cap<9223372036854775808/\(0<cs.length->∃b,ad=some ⟨b,0,none⟩/\∀i,i<cs.length->
  w.cell? ⟨b,i*3,none⟩=some (.int .i64 ((cs.getD i (0,0,0)).1:Int))/\w.cell? ⟨b,i*3+1,none⟩=some (.int .i64 ((cs.getD i (0,0,0)).2.1:Int))/\w.cell? ⟨b,i*3+2,none⟩=some (.int .i64 ((cs.getD i (0,0,0)).2.2:Int)))
def ab2(s:ByteArray)(c:Cut):Prop:=c.1<=c.2.1/\c.2.1<=c.2.2/\c.2.2+4<=s.size
theorem ad9{H:Code}(h:H=Hm):(ah H).funcs[122]? =some {Tryz.f122 with body:=some Hm}:=by
 subst h
 rw[fM,yE,abW]
theorem ajh(H:Code)(x y z:Value)(w:World):Sem.run (ah H) (Instr.field 178 (.agg #[x,y,z]) 0) w=.ok x w:=by kernel_rfl
theorem aji(H:Code)(x y z:Value)(w:World):Sem.run (ah H) (Instr.field 178 (.agg #[x,y,z]) 1) w=.ok y w:=by kernel_rfl
theorem ajj(H:Code)(x y z:Value)(w:World):Sem.run (ah H) (Instr.field 178 (.agg #[x,y,z]) 2) w=.ok z w:=by kernel_rfl
theorem Xx(l:List Cut)(f:Cut->Bool){k:Nat}(h:k<l.length):(l.take (k+1)).all f=((l.take k).all f&&f (l.getD k (0,0,0))):=by
 rw[List.take_add_one,List.all_append]
 simp[List.getD,h]
theorem Df{H:Code}(hEq:H=Hm)(s:ByteArray)(v:Value)(l:List Cut)(w:World)(hs:s.size<1000000000000)(hl:l.length<1000000000000)(hv:Xw w v l)(hc:∀c∈l,ab2 s c):
  Calls (ah H) 122 #[.string s,v] w λe w'=>e=.returned (.bool (l.all λc=>zI s (Fj c)))/\Below w.heap.size w w':=by
 obtain⟨ad,cap,rfl,h1,h2,h3⟩:=hv
 have HV:=Lib.hid h3
 clear h3
 go_enter (ad9 hEq),Tryz.ntmps122
 simp only[Hm,cL,cB,cC,cD,cE,cF,cG,cH,cI,cJ,must,hA,hB,hC,hD,hE,hF,hG,hH,hI,hJ,dK,JQ,WU,NS]
 clear hEq
 go_wp2_with fail
 go_loopw [4,8] (λr i wr=>∃k:Nat,k<=l.length/\i=.int .i64 k/\r=.bool ((l.take k).all λc=>zI s (Fj c))/\Hid (Below w.heap.size w wr)) (λ_ i _=>l.length-(intOf i).toNat)
 case atStart=>exact⟨0,Nat.zero_le _,rfl,by simp,Lib.hid (Below.refl _ _)⟩
 case round=>
  obtain⟨k,hk,rfl,rfl,hb⟩:=hrel
  by_cases hlk:k<l.length
  ·obtain⟨b,rfl,h4⟩:=HV.out (by omega)
   obtain⟨e0,e1,e2⟩:=h4 k hlk
   have hmem:l.getD k (0,0,0)∈l:=by simp[List.getD,hlk]
   obtain⟨o1,o2,o3⟩:=hc _ hmem
   have HA:=Lib.hid (Xx l (λc=>zI s (Fj c)) hlk)
   have g0:=aJ hb.out e0
   have g1:=aJ hb.out e1
   have g2:=aJ hb.out e2
   clear e0 e1 e2 h4 hmem
   generalize l.getD k (0,0,0)=c at*
   obtain⟨x,y,z⟩:=c
   dsimp only at*
   have HU:=Lib.hid (yH (HC:=H) s x y z)
   have hsd:Sem.run (ah H) (Builtin.unsafeSliceData_ #[176] 0 #[.slice (some ⟨b,0,none⟩) l.length cap]) wr=.ok (.pointer (some ⟨b,0,none⟩)) wr:=by
    rw[E8 _ _ _ _ _ (by omega)]
    rfl
   have hmx:=NU (HC:=H) _ wr g0
   have ka:Below wr.heap.size wr (wr.alloc dG):=jU (Below.refl _ _) _
   have f0:=aJ ka g0
   have f1:=aJ ka g1
   have f2:=aJ ka g2
   have HK:Hid (Below w.heap.size w (wr.alloc dG)):=Lib.hid (hb.out.trans (ka.mono hb.out.size))
   clear ka
   have q0:=ajh H
   have q1:=aji H
   have q2:=ajj H
   have i1:(0:Int)<=(x:Int):=by omega
   have i2:(0:Int)<=(y:Int):=by omega
   have i3:(x:Int)<=(z:Int):=by omega
   have i4:(z:Int)<=(s.size:Int):=by omega
   have i5:(z:Int)+4<=(s.size:Int):=by omega
   go_wp2_with fail
   refine(HU.out _ hs (by omega) (by omega)).mono ?_;rintro e w2 ⟨rfl,k2⟩
   have HB:Hid (Below w.heap.size w w2):=Lib.hid (HK.out.trans (k2.mono HK.out.size))
   have HA2:Hid (((l.take (k+1)).all λc=>zI s (Fj c))=(((l.take k).all λc=>zI s (Fj c))&&zI s ((x:Int),(y:Int),(z:Int)))):=HA
   clear HA HU k2 q0 q1 q2 hsd hmx
   generalize((l.take k).all λc=>zI s (Fj c))=r1 at*
   rcases hg:zI s ((x:Int),(y:Int),(z:Int))with _|_
   ·rw[hg]at HA2
    go_wp2_with fail
    exact⟨⟨k+1,by omega,by go_num,by rw[HA2.out];simp,HB⟩,by simp[intOf];omega⟩
   ·rw[hg]at HA2
    go_wp2_with fail
    exact⟨⟨k+1,by omega,by go_num,by rw[HA2.out];simp,HB⟩,by simp[intOf];omega⟩
  ·obtain rfl:k=l.length:=by omega
   go_wp2_with fail
   go_ret
   exact⟨by simp,hb.out⟩
end Go.Proofs.YtlncengggmgdgaaGreat.fr
