/- frames.read before the beginning; cut.frame; frames.Take. LONE=1. No conditions. -/
import Derived.Test.YtlncengggmgdgaaGreatG18
import Derived.Test.YtlncengggmgdgaaGreatFh
import Derived.Test.YtlncengggmgdgaaGreatG24
import Derived.Test.YtlncengggmgdgaaGreatGa
import Derived.Test.YtlncengggmgdgaaGreatG22
import Derived.Deep.RegionHeld3
import Derived.Test.YtlncengggmgdgaaGreatGr
set_option linter.unusedVariables false
set_option linter.unusedSimpArgs false
set_option maxRecDepth 100000
namespace Go.Proofs.YtlncengggmgdgaaGreat.fr
open Go.RowKit cm cw ga
variable {HC : Code}
attribute [local irreducible] par.ah
def Qz(id:Int)(body:ByteArray):Value:=.agg #[.int .i64 id,.string body]
theorem Ub(s:ByteArray)(a b n:Nat)(w:World)(hs:s.size<1000000000000)(h1:a<s.size)(h2:b<=n)(h3:n<=s.size):
  Calls (par.ah HC) 123 #[.agg #[.int .i64 a,.int .i64 b,.int .i64 n],.string s] w λe w'=>e=.returned (Qz (s[a].toNat:Nat) (s.extract b n))/\Below w.heap.size w w':=by
 have hB:s[a].toNat<256:=s[a].toNat_lt
 generalize hx:s[a].toNat=x at*
 have hwx:IntKind.i64.wrap (x:Int)=(x:Int):=kL _ (by omega)
 go_enter (par.ZW (H:=HC)),Tryz.ntmps123
 go_wp2_with fail
 have i1:(a:Int)<(s.size:Int):=by omega
 have i2:(b:Int)<=(n:Int):=by omega
 have i3:(n:Int)<=(s.size:Int):=by omega
 have i4:(0:Int)<=(a:Int):=by omega
 have i5:(0:Int)<=(b:Int):=by omega
 have hM:((s.extract b n).size:Nat)<=281474976710656:=by simp;omega
 generalize hW:(w.alloc (.cells #[.int .i64 a,.int .i64 b,.int .i64 n] 178)).alloc (.cells #[.int .i64 0,.string ⟨#[]⟩] 85)=W
 have c0:W.cell? ⟨w.heap.size,0,none⟩=some (.int .i64 a):=by rw[<-hW];simp
 have c1:W.cell? ⟨w.heap.size,1,none⟩=some (.int .i64 b):=by rw[<-hW];simp
 have c2:W.cell? ⟨w.heap.size,2,none⟩=some (.int .i64 n):=by rw[<-hW];simp
 have d0:W.cell? ⟨w.heap.size+1,0,none⟩=some (.int .i64 0):=by rw[<-hW];simp
 have d1:W.cell? ⟨w.heap.size+1,1,none⟩=some (.string ⟨#[]⟩):=by rw[<-hW];simp
 have f0:W.frozen? ⟨w.heap.size+1,0,none⟩=false:=by rw[<-hW];simp
 have f1:W.frozen? ⟨w.heap.size+1,1,none⟩=false:=by rw[<-hW];simp
 have hbW:Below w.heap.size w W:=by rw[<-hW];exact bm
 have hWs:w.heap.size+1<W.heap.size:=by rw[<-hW];simp
 clear hW
 go_region_held3 (λw'=>w'.cell? ⟨w.heap.size,0,none⟩=some (.int .i64 (a:Int))/\w'.cell? ⟨w.heap.size,1,none⟩=some (.int .i64 (b:Int))/\w'.cell? ⟨w.heap.size,2,none⟩=some (.int .i64 (n:Int)))
  (first|go_keep|(refine abV (W:=W) ?_ ⟨c0,c1,c2⟩;exact bm))
  (first
   |(go_at_call 142;refine(clone_any _ _ hM).mono ?_;rintro e w1 ⟨rfl,k1⟩;have e0:=aJ k1 d0;have e1:=aJ k1 d1;have g0:=(k1.frozen (p:=⟨w.heap.size+1,0,none⟩) hWs).trans f0;have g1:=(k1.frozen (p:=⟨w.heap.size+1,1,none⟩) hWs).trans f1))
 all_goals
  go_wp2_with fail
  refine bodyPost_ret (v:=Qz (x:Int) (s.extract b n)) (by simp only[results,Tryz.results123,Qz];go_simp) rfl ⟨rfl,?_⟩
  have:=aP (GN hbW) k1
  exact bm
theorem FB{l:List Nat}{at_ a b n:Nat}(h:rd l at_=.ok a b n):a=at_/\at_<l.length/\a<=b/\b<=n/\n+4<=l.length:=by
 unfold rd at h
 split at h
 ·cases h
 ·rename_i x t hd
  have hlt:at_<l.length:=by
   rcases Nat.lt_or_ge at_ l.length with e|e
   ·exact e
   ·rw[List.drop_eq_nil_of_le e]at hd;cases hd
  split at h
  ·cases h
  ·split at h
   ·cases h
   ·cases h
   ·split at h
    ·cases h
     exact⟨rfl,hlt,by omega,by omega,by omega⟩
    ·cases h
theorem Ic{l:List Nat}{at_:Nat}{e:Int}(h:rd l at_=.bad e):e=2\/e=3:=by
 unfold rd at h
 split at h
 ·cases h;exact .inl rfl
 ·split at h
  ·cases h;exact .inr rfl
  ·split at h
   ·cases h;exact .inl rfl
   ·cases h;exact .inr rfl
   ·split at h
    ·cases h
    ·cases h;exact .inl rfl
inductive TK where
 |ok (id:Nat) (body:ByteArray) (next:Nat)
 |bad (e:Int)
def KT:TK->Value
 | .ok id body n=>.tuple #[Qz (id:Int) body,.int .i64 (n:Int),.int .i64 0]
 | .bad e=>.tuple #[Qz 0 ⟨#[]⟩,.int .i64 0,.int .i64 e]
def tk(s:ByteArray)(at_:Nat):TK:=
 match rd (au s) at_ with
 | .bad e=>.bad e
 | .ok a b n=>if zI s (Fj (a,b,n))then .ok ((au s).getD a 0) (s.extract b n) (n+4)else .bad 4
end Go.Proofs.YtlncengggmgdgaaGreat.fr
namespace Go.Proofs.YtlncengggmgdgaaGreat.fr
open Go.RowKit cm cw ga gr
variable {HC : Code}
attribute [local irreducible] par.ah
def xJ(c:Cut):List Value:=[.int .i64 (c.1:Int),.int .i64 (c.2.1:Int),.int .i64 (c.2.2:Int)]
def jo(f:Int×ByteArray):List Value:=[.int .i64 f.1,.string f.2]
def dU(l:List Nat)(p:Nat):List Cut×Int:=
 if p<l.length then match hr:rd l p with
  | .bad e=>([],e)
  | .ok a b n=>((a,b,n)::(dU l (n+4)).1,(dU l (n+4)).2)
 else([],0)
termination_by l.length-p
decreasing_by all_goals (have:=FB hr;omega)
theorem jP{l:List Nat}{p:Nat}(h:¬p<l.length):dU l p=([],0):=by rw[dU,if_neg h]
theorem oQ{l:List Nat}{p:Nat}{e:Int}(h:p<l.length)(hr:rd l p=.bad e):dU l p=([],e):=by
 rw[dU,if_pos h]
 split
 ·rename_i e' he;rw[hr]at he;cases he;rfl
 ·rename_i a b n he;rw[hr]at he;cases he
theorem oU{l:List Nat}{p a b n:Nat}(h:p<l.length)(hr:rd l p=.ok a b n):dU l p=((a,b,n)::(dU l (n+4)).1,(dU l (n+4)).2):=by
 rw[dU,if_pos h]
 split
 ·rename_i e' he;rw[hr]at he;cases he
 ·rename_i a' b' n' he;rw[hr]at he;cases he;rfl
theorem X0(s:ByteArray):∀(k p:Nat),s.size-p<=k->∀c∈(dU (au s) p).1,ab2 s c:=by
 intro k
 induction k with
 |zero=>
  intro p hk c hc
  rw[jP (by rw[aC];omega)]at hc
  cases hc
 |succ k ih=>
  intro p hk c hc
  by_cases h:p<(au s).length
  ·cases hr:rd (au s) p with
   |bad e=>rw[oQ h hr]at hc;cases hc
   |ok a b n=>
    rw[oU h hr]at hc
    obtain⟨h1,h2,h3,h4,h5⟩:=FB hr
    rw[aC]at h5
    rcases List.mem_cons.1 hc with rfl|hc
    ·exact⟨h3,h4,h5⟩
    ·exact ih (n+4) (by omega) c hc
  ·rw[jP h]at hc;cases hc
theorem Uc(l:List Nat):∀(k p:Nat),l.length-p<=k->(dU l p).2=0\/(dU l p).2=2\/(dU l p).2=3:=by
 intro k
 induction k with
 |zero=>
  intro p hk
  rw[jP (by omega)]
  exact .inl rfl
 |succ k ih=>
  intro p hk
  by_cases h:p<l.length
  ·cases hr:rd l p with
   |bad e=>
    rw[oQ h hr]
    exact .inr (Ic hr)
   |ok a b n=>
    rw[oU h hr]
    obtain⟨h1,h2,h3,h4,h5⟩:=FB hr
    exact ih (n+4) (by omega)
  ·rw[jP h];exact .inl rfl
def yP(s:ByteArray)(c:Cut):Int×ByteArray:=(((au s).getD c.1 0:Nat),s.extract c.2.1 c.2.2)
def gQ(s:ByteArray):List (Int×ByteArray)×Int:=
 if(dU (au s) 0).1.all (λc=>zI s (Fj c))then(if(dU (au s) 0).2=0 then((dU (au s) 0).1.map (yP s),0)else([],(dU (au s) 0).2))else([],4)
theorem KU{W:World}{B:Nat}{v:Value}{cs:List Cut}(h:aX 178 3 xJ W B v cs):Xw W v cs:=by
 obtain⟨ad,cap,rfl,h1,h2,h3,h4⟩:=h.form (λ_=>rfl)
 refine⟨ad,cap,rfl,h1,h2,λh0=> ?_⟩
 obtain⟨g,rfl,_,_,h5⟩:=h4 h0
 refine⟨g,rfl,λi hi=> ?_⟩
 have hx:cs[i]? =some (cs.getD i (0,0,0)):=by simp[List.getD,hi]
 exact⟨h5 i 0 _ _ hx rfl,h5 i 1 _ _ hx rfl,h5 i 2 _ _ hx rfl⟩
theorem OC(s:ByteArray)(a b n:Nat)(w:World)(hs:s.size<1000000000000)(h1:a<s.size)(h2:b<=n)(h3:n<=s.size):
  Calls (par.ah HC) 123 #[.agg #[.int .i64 a,.int .i64 b,.int .i64 n],.string s] w λe w'=>e=.returned (.agg #[.int .i64 (((au s).getD a 0:Nat):Int),.string (s.extract b n)])/\Below w.heap.size w w':=by
 have hg:(au s).getD a 0=s[a].toNat:=by
  have hl:a<(au s).length:=by rw[aC];exact h1
  rw[List.getD,List.getElem?_eq_getElem hl]
  simp[au]
  rfl
 rw[hg]
 exact Ub s a b n w hs h1 h2 h3
theorem X3{W:World}{B:Nat}{v:Value}{cs:List Cut}(h:aX 178 3 xJ W B v cs):∃(ad:Option Addr)(cap:Nat),v=.slice ad cs.length cap/\cs.length<=cap/\cap<9223372036854775808/\(ad=none->cap=0)/\
  (0<cs.length->∃g,ad=some ⟨g,0,none⟩/\g<W.heap.size/\∀i,i<cs.length->W.cell? ⟨g,i*3,none⟩=some (.int .i64 ((cs.getD i (0,0,0)).1:Int))/\W.cell? ⟨g,i*3+1,none⟩=some (.int .i64 ((cs.getD i (0,0,0)).2.1:Int))/\W.cell? ⟨g,i*3+2,none⟩=some (.int .i64 ((cs.getD i (0,0,0)).2.2:Int))):=by
 obtain⟨ad,cap,rfl,h1,h2,h3,h4⟩:=h.form (λ_=>rfl)
 refine⟨ad,cap,rfl,h1,h2,h3,λh0=> ?_⟩
 obtain⟨g,rfl,_,h6,h5⟩:=h4 h0
 refine⟨g,rfl,h6,λi hi=> ?_⟩
 have hx:cs[i]? =some (cs.getD i (0,0,0)):=by simp[List.getD,hi]
 exact⟨h5 i 0 _ _ hx rfl,h5 i 1 _ _ hx rfl,h5 i 2 _ _ hx rfl⟩
theorem X4:((par.ah HC).info? 178).map (λi=>(i.zero,i.size,i.bytes))=some (some (.agg #[.int .i64 0,.int .i64 0,.int .i64 0]),3,24):=by kernel_rfl
theorem OD:((par.ah HC).info? 85).map (λi=>(i.zero,i.size,i.bytes))=some (some (.agg #[.int .i64 0,.string ⟨#[]⟩]),2,24):=by kernel_rfl
theorem aa2{f:Cut}:∀u∈xJ f,u.oneCell'=true:=by intro u hu;simp[xJ]at hu;rcases hu with rfl|rfl|rfl<;>rfl
theorem X5{f:Int×ByteArray}:∀u∈jo f,u.oneCell'=true:=by intro u hu;simp[jo]at hu;rcases hu with rfl|rfl<;>rfl
theorem aa3{ops:Array Oper}{rest:List Oper}{o:Oper}{a:Act}{Q:Exit->Act->World->Prop}(w:World)(hw:Region.wanted o (yielded ops a.tmps)=true)(s x:Operand)
  (ho:o.op=.call {callee:=.builtin .append,args:= #[s,x],argTypes:= #[176,176]})
  (B:Nat) (v u:Value) (xs:List Cut) (y:Cut) (hs:a.eval s=v) (hx:a.eval x=u) (hown:aX 178 3 xJ w B v xs) (hys:jc 3 xJ w u [y]) (hbig:xs.length+1<100000000000) (hB:B<=w.heap.size)
  (h:∀v' w',aX 178 3 xJ w' B v' (xs++[y])->w.grownBy w' v.ownBlock->(v'.ownBlock=v.ownBlock\/v'.ownBlock=some w.heap.size)->wpList (par.ah HC) ops Q rest (a.put o.dst v') w'):wpList (par.ah HC) ops Q (o::rest) a w:=
 Fp (α:=Cut) (k:=3) (en:=xJ) w hw s x _ ho (λ_=>rfl) (λ_=>aa2) _ 24 ((par.aB HC 176).trans Tryz.underlying176) X4 rfl (by decide) (by decide) B v u xs [y] hs hx hown hys hbig hB h
theorem gU{ops:Array Oper}{rest:List Oper}{o:Oper}{a:Act}{Q:Exit->Act->World->Prop}(w:World)(hw:Region.wanted o (yielded ops a.tmps)=true)(s x:Operand)
  (ho:o.op=.call {callee:=.builtin .append,args:= #[s,x],argTypes:= #[86,86]})
  (B:Nat) (v u:Value) (xs:List (Int×ByteArray)) (y:Int×ByteArray) (hs:a.eval s=v) (hx:a.eval x=u) (hown:aX 85 2 jo w B v xs) (hys:jc 2 jo w u [y]) (hbig:xs.length+1<100000000000) (hB:B<=w.heap.size)
  (h:∀v' w',aX 85 2 jo w' B v' (xs++[y])->w.grownBy w' v.ownBlock->(v'.ownBlock=v.ownBlock\/v'.ownBlock=some w.heap.size)->wpList (par.ah HC) ops Q rest (a.put o.dst v') w'):wpList (par.ah HC) ops Q (o::rest) a w:=
 Fp (α:=Int×ByteArray) (k:=2) (en:=jo) w hw s x _ ho (λ_=>rfl) (λ_=>X5) _ 24 ((par.aB HC 86).trans Tryz.underlying86) OD rfl (by decide) (by decide) B v u xs [y] hs hx hown hys hbig hB h
set_option maxHeartbeats 8000000 in
theorem aa4(hEq:HC=par.Hm)(s:ByteArray)(w:World)(hs:s.size<10000000000):
  Calls (par.ah HC) 87 #[.string s] w λe w'=>∃v,e=.returned (.tuple #[v,.int .i64 (gQ s).2])/\jc 2 jo w' v (gQ s).1/\Below w.heap.size w w':=by
 have HE:=Lib.hid (Df hEq s)
 clear hEq
 have HC2:=Lib.hid (X0 s s.size 0 (by omega))
 have HA:Hid (gQ s=if(dU (au s) 0).1.all (λc=>zI s (Fj c))then(if(dU (au s) 0).2=0 then((dU (au s) 0).1.map (yP s),0)else([],(dU (au s) 0).2))else([],4)):=Lib.hid rfl
 generalize hT:dU (au s) 0=T at*
 go_enter (par.adG (H:=HC)),Tryz.ntmps87
 go_wp2_with fail
 go_loopw [4,5,6] (λcv wr at_ wd=>∃(cs:List Cut)(p:Nat),p<=s.size/\at_=.int .i64 p/\wr=.int .i64 0/\Hid (T=(cs++(dU (au s) p).1,(dU (au s) p).2))/\Hid (aX 178 3 xJ wd w.heap.size cv cs)/\cs.length<=p/\Hid (Below w.heap.size w wd)) (λ_ _ at_ _=>s.size-(intOf at_).toNat)
 case atStart=>exact⟨[],0,Nat.zero_le _,rfl,rfl,Lib.hid (by rw[<-hT];rfl),Lib.hid (aX.nil _ _),by simp,Lib.hid (Below.refl _ _)⟩
 case round=>
  clear hT
  obtain⟨cs,p,hp,rfl,rfl,hcw,ho,hcl,hb⟩:=hrel
  by_cases hlp:p<s.size
  ·have HR:=Lib.hid (Xz (HC:=HC) s p)
   have hok:= @FB (au s) p
   have hbad:= @Ic (au s) p
   have hcb:= @oQ (au s) p
   have hco:= @oU (au s) p
   rw[aC]at hok hcb hco
   generalize rd (au s) p=R at*
   rcases R with⟨a,b,n⟩|e
   ·obtain⟨rfl,h1,h2,h3,h4⟩:=hok rfl
    have hnew:Hid (T=((cs++[(a,b,n)])++(dU (au s) (n+4)).1,(dU (au s) (n+4)).2)):=Lib.hid (by rw[hcw.out,hco hlp rfl];simp)
    clear hok hbad hcb hco hcw
    go_wp2_with fail
    refine(HR.out _ (by omega) (by omega)).mono ?_;rintro e' w1 ⟨rfl,k1⟩
    unfold Og
    have HN:=Lib.hid (next_any (HC:=HC) (a:Int) (b:Int) (n:Int))
    have LC:Hid (aX 178 3 xJ w1 w.heap.size u4 cs):=Lib.hid (ho.out.tr k1)
    have HB1:Hid (Below w.heap.size w w1):=Lib.hid (aP hb.out k1)
    clear k1 ho hb
    have K1:=aW.new w1 #[.int .i64 (a:Int),.int .i64 (b:Int),.int .i64 (n:Int)] 178
    go_wp2_with (at_builtin;refine aa3 _ rfl _ _ rfl w.heap.size _ _ cs (a,b,n) rfl rfl ?c0 ?c1 ?c2 ?c3 ?c4)
    case c0=>exact LC.out.tr (by exact bm)
    case c1=>refine lD _ (a,b,n) _ rfl _ ?_;simp
    case c2=>omega
    case c3=>have:=HB1.out.size;simp;omega
    case c4=>
    intro v' w2 ho2 hg hat
    have K2:=yM hg (K1.alloc (.cells #[.int .i64 (a:Int),.int .i64 (b:Int),.int .i64 (n:Int)] 178)) (λk hk e=>by have:=LC.out.lt k hk;omega)
    have H2:Hid (aX 178 3 xJ w2 w.heap.size v' (cs++[(a,b,n)])):=Lib.hid ho2
    have H3:Hid (Below w.heap.size w w2):=Lib.hid (dF hg (eG (eG HB1.out (Nat.le_refl _) _) (Nat.le_refl _) _) (Nat.le_refl _) LC.out.block)
    clear ho2 hg hat K1 LC HB1
    generalize w1.heap.size=m1 at*
    obtain⟨l2,c2,f2⟩:=K2.get
    go_wp2_with fail
    refine(HN.out _ (by omega) (by omega)).mono ?_;rintro e' w3 ⟨rfl,k3⟩
    have H4:Hid (aX 178 3 xJ w3 w.heap.size v' (cs++[(a,b,n)])):=Lib.hid (H2.out.tr k3)
    have H5:Hid (Below w.heap.size w w3):=Lib.hid (aP H3.out k3)
    clear k3 H2 H3 K2 l2 c2 f2
    go_wp2_with fail
    exact⟨⟨cs++[(a,b,n)],n+4,by omega,by first|rfl|go_num,rfl,hnew,H4,by simp;omega,H5⟩,by simp[intOf];omega⟩
   ·have he:=hbad rfl
    have he0:¬e=0:=by omega
    have hT:=hcw.out
    rw[hcb hlp rfl,List.append_nil]at hT
    subst hT
    clear hok hbad hcb hco hcw
    dsimp only at HA HC2
    go_wp2_with fail
    refine(HR.out _ (by omega) (by omega)).mono ?_;rintro e' w1 ⟨rfl,k1⟩
    unfold Og
    have LC:Hid (aX 178 3 xJ w1 w.heap.size u4 cs):=Lib.hid (ho.out.tr k1)
    have HB1:Hid (Below w.heap.size w w1):=Lib.hid (aP hb.out k1)
    clear k1 ho hb
    go_wp2_with fail
    refine(HE.out _ cs _ (by omega) (by omega) (KU (LC.out.tr (by exact bm))) HC2.out).mono ?_;rintro e' w2 ⟨rfl,k2⟩
    have HB2:Hid (Below w.heap.size w w2):=Lib.hid (by have:=HB1.out;exact bm)
    clear k2 HB1 LC HE HC2
    generalize cs.all (λc=>zI s (Fj c))=G at*
    rw[if_neg he0]at HA
    rcases G with _|_
    ·have HA2:Hid (gQ s=([],4)):=HA
     go_wp2_with fail
     go_ret2
     exact⟨_,by rw[HA2.out];rfl,by rw[HA2.out];exact jc.nil,HB2.out⟩
    ·have HA2:Hid (gQ s=([],e)):=HA
     go_wp2_with fail
     go_ret2
     exact⟨_,by rw[HA2.out];rfl,by rw[HA2.out];exact jc.nil,HB2.out⟩
  ·obtain rfl:p=s.size:=by omega
   have hT:=hcw.out
   rw[jP (by rw[aC];omega),List.append_nil]at hT
   subst hT
   clear hcw
   dsimp only at HA HC2
   rw[if_pos rfl]at HA
   go_wp2_with fail
   refine(HE.out _ cs _ (by omega) (by omega) (KU ho.out) HC2.out).mono ?_;rintro e' w2 ⟨rfl,k2⟩
   have HB2:Hid (Below w.heap.size w w2):=Lib.hid (aP hb.out k2)
   have Oz:Hid (aX 178 3 xJ w2 w.heap.size u4 cs):=Lib.hid (ho.out.tr k2)
   clear k2 hb ho HE
   generalize cs.all (λc=>zI s (Fj c))=G at*
   rcases G with _|_
   ·have HA2:Hid (gQ s=([],4)):=HA
    go_wp2_with fail
    go_ret2
    exact⟨_,by rw[HA2.out];rfl,by rw[HA2.out];exact jc.nil,HB2.out⟩
   ·have HA2:Hid (gQ s=(cs.map (yP s),0)):=HA
    clear HA
    obtain⟨ad,cap,rfl,q1,q2,q3,q4⟩:=X3 Oz.out
    have HQ:=Lib.hid q4
    clear q3 q4
    go_wp2_with fail
    go_loopw [9,40] (λlv i wr=>∃k:Nat,k<=cs.length/\i=.int .i64 k/\Hid (aX 85 2 jo wr w2.heap.size lv ((cs.take k).map (yP s)))/\Hid (Below w2.heap.size w2 wr)) (λ_ i _=>cs.length-(intOf i).toNat)
    case atStart=>exact⟨0,Nat.zero_le _,rfl,Lib.hid (aX.nil _ _),Lib.hid (Below.refl _ _)⟩
    case round=>
     obtain⟨k,hk,rfl,ho,hb⟩:=hrel
     by_cases hlk:k<cs.length
     ·obtain⟨g,rfl,hgl,h5⟩:=HQ.out (by omega)
      obtain⟨e0,e1,e2⟩:=h5 k hlk
      obtain⟨o1,o2,o3⟩:=HC2.out (cs.getD k (0,0,0)) (by simp[List.getD,hlk])
      have hsn:Hid ((cs.take (k+1)).map (yP s)=(cs.take k).map (yP s)++[yP s (cs.getD k (0,0,0))]):=Lib.hid (by rw[List.take_add_one,List.map_append];simp[List.getD,hlk])
      replace e0:=aJ hb.out e0
      replace e1:=aJ hb.out e1
      replace e2:=aJ hb.out e2
      have amq:g<wr.heap.size:=Nat.lt_of_lt_of_le hgl hb.out.size
      clear h5
      generalize cs.getD k (0,0,0)=c at*
      obtain⟨x,y,z⟩:=c
      dsimp only at*
      have HF:=Lib.hid (λW=>OC (HC:=HC) s x y z W (by omega) (by omega) o2 (by omega))
      have hfr:yP s (x,y,z)=((((au s).getD x 0:Nat):Int),s.extract y z):=rfl
      rw[hfr]at hsn
      have hll:((cs.take k).map (yP s)).length+1<100000000000:=by simp;omega
      generalize(cs.take k).map (yP s)=done at*
      generalize(au s).getD x 0=X at*
      generalize s.extract y z=Z at*
      clear hfr
      go_wp2_with fail
      refine(HF.out _).mono ?_;rintro e' w3 ⟨rfl,k3⟩
      have HO3:Hid (aX 85 2 jo w3 w2.heap.size u9 done):=Lib.hid (ho.out.tr (by exact bm))
      have HB3:Hid (Below w2.heap.size w2 w3):=Lib.hid (by have:=hb.out;exact bm)
      clear k3 ho hb HF
      go_wp2_with (at_builtin;refine gU _ rfl _ _ rfl w2.heap.size _ _ done ((X:Int),Z) rfl rfl ?d0 ?d1 hll ?d3 ?d4)
      case d0=>exact HO3.out.tr (by exact bm)
      case d1=>refine lD _ ((X:Int),Z) _ rfl _ ?_;try simp
      case d3=>have:=HB3.out.size;simp;omega
      case d4=>
      intro v' w4 uS hg hat
      have H2:Hid (aX 85 2 jo w4 w2.heap.size v' (done++[((X:Int),Z)])):=Lib.hid uS
      have H3:Hid (Below w2.heap.size w2 w4):=Lib.hid (dF hg (eG HB3.out (Nat.le_refl _) _) (Nat.le_refl _) HO3.out.block)
      clear uS hg hat HO3 HB3
      go_wp2_with fail
      exact⟨⟨k+1,by omega,by go_num,Lib.hid (by rw[hsn.out];exact H2.out),H3⟩,by simp[intOf];omega⟩
     ·obtain rfl:k=cs.length:=by omega
      have ho2:=ho.out
      rw[List.take_length]at ho2
      have HO3:=Lib.hid ho2
      have HB3:Hid (Below w.heap.size w wr):=Lib.hid (aP HB2.out hb.out)
      clear ho ho2 hb HQ
      go_wp2_with fail
      go_ret2
      exact⟨_,by rw[HA2.out];rfl,by rw[HA2.out];exact HO3.out.sees (λ_=>rfl),HB3.out⟩
end Go.Proofs.YtlncengggmgdgaaGreat.fr
namespace Go.Proofs.YtlncengggmgdgaaGreat.fr
open Go.RowKit cm cw ga gr
variable {HC : Code}
attribute [local irreducible] par.ah
abbrev lX:=Int×ByteArray
def yQ(f:lX):Prop:=1<=f.1/\f.1<=127
instance(f:lX):Decidable (yQ f):=by unfold yQ;infer_instance
def Dx(f:lX):List UInt8:=(jD f.1.toNat f.2).data.toList
def nG(fs:List lX):List UInt8:=fs.flatMap Dx
def jq(fs:List lX):ByteArray×Int:=if∀f∈fs,yQ f then(⟨(nG fs).toArray⟩,0)else(⟨#[]⟩,1)
theorem KW(id:Nat)(body:ByteArray)(hs:body.size<100000000000):(jD id body).size<=body.size+15:=by
 have h1:(dL [id]).size=1:=dN _
 have h2:(dL (bM body.size)).size<=10:=by rw[dN];exact iZ (by omega)
 have h3:∀X,(jM X).size=4:=λX=>by unfold jM;rw[dN];simp[le4]
 unfold jD zN
 simp only[ByteArray.size_append,h1,h3]
 omega
theorem OE(fs:List lX)(k:Nat)(h:k<fs.length):nG (fs.take (k+1))=nG (fs.take k)++Dx (fs.getD k (0,⟨#[]⟩)):=by
 unfold nG
 rw[List.take_add_one,List.flatMap_append]
 simp[List.getD,h]
end Go.Proofs.YtlncengggmgdgaaGreat.fr
namespace Go.Proofs.YtlncengggmgdgaaGreat.fr
open Go.RowKit cm cw ga gr fl
variable {HC : Code}
attribute [local irreducible] par.ah
theorem qp{a b:ByteArray}(h:au a=au b):a=b:=by
 apply ByteArray.ext
 apply Array.toList_inj.1
 unfold au at h
 exact(List.map_inj_right (λx y e=>UInt8.toNat_inj.1 e)).1 h
theorem jE(a b:ByteArray):au (a++b)=au a++au b:=by simp[au]
theorem iP(s:ByteArray)(a b:Nat):au (s.extract a b)=((au s).drop a).take (b-a):=by
 simp[au,List.drop_take,List.map_drop,List.map_take]
theorem FC(s:ByteArray):By (au s):=bP s
theorem iQ{l:List Nat}(h:By l):au (dL l)=l:=by
 unfold au dL
 rw[strOfNums_data]
 simp only[List.map_map]
 conv=>rhs;rw[<-List.map_id l]
 apply List.map_congr_left
 intro b hb
 have:=h b hb
 simp
 omega
theorem ajy(a b:ByteArray):(a==b)=decide (a=b):=by
 rw[beq_toListBytes,ByteArray.toList_eq,ByteArray.toList_eq]
 by_cases h:a=b
 ·subst h;simp
 ·rw[decide_eq_false h]
  simp only[beq_eq_false_iff_ne,ne_eq]
  exactλe=>h (ByteArray.ext (Array.toList_inj.1 e))
theorem zO(s:ByteArray):dL (au s)=s:=qp (iQ (FC s))
theorem aa5{id:Nat}(body:ByteArray)(h:id<=127):au (zN id body)=hdL id (au body):=by
 unfold zN hdL
 rw[jE,jE,iQ (by intro b hb;simp at hb;omega),iQ (By.bM _),aC]
 simp
theorem Dy{id:Nat}(body:ByteArray)(h:id<=127):au (jD id body)=UG id (au body):=by
 unfold jD UG jM
 rw[jE,iQ (By.le4 _),aa5 body h]
theorem agR(s:ByteArray)(a b n:Nat):zI s (Fj (a,b,n))=decide (((au s).drop n).take 4=le4 (ni (((au s).drop a).take (n-a)))):=by
 unfold zI Fj
 dsimp only
 have e1:(a:Int).toNat=a:=by omega
 have e2:(n:Int).toNat=n:=by omega
 have e3:((n:Int)+4).toNat=n+4:=by omega
 rw[e1,e2,e3,iP]
 have e4:((au s).drop n).take 4=au (s.extract n (n+4)):=by rw[iP,Nat.add_sub_cancel_left]
 have e5:∀X,le4 X=au (jM X):=λX=>by unfold jM;rw[iQ (By.le4 _)]
 rw[e4,e5]
 rw[ajy]
 by_cases h:s.extract n (n+4)=jM (ni (((au s).drop a).take (n-a)))
 ·rw[h];simp
 ·rw[decide_eq_false (λe=>h (qp e)),decide_eq_false h]
theorem agS(l:List Nat)(p:Nat):match rd l p with
  | .bad e=>pf (l.drop p)=.bad e
  | .ok a b n=>pf (l.drop p)=if(l.drop n).take 4=le4 (ni ((l.drop a).take (n-a)))then .ok (l.getD a 0) ((l.drop b).take (n-b)) (l.drop (n+4))else .bad 4:=by
 unfold rd
 cases hd:l.drop p with
 |nil=>rfl
 |cons x t=>
  have hlt:p<l.length:=by
   rcases Nat.lt_or_ge p l.length with e|e
   ·exact e
   ·rw[List.drop_eq_nil_of_le e]at hd;cases hd
  have ht:t=l.drop (p+1):=by rw[<-List.tail_drop,hd];rfl
  have hx:l.getD p 0=x:=by
   have:l[p]? =some x:=by
    have:=congrArg (λl=>l[0]?) hd
    simpa using this
   simp[List.getD,this]
  have htl:t.length=l.length-(p+1):=by rw[ht];simp
  dsimp only
  rw[Au]
  by_cases hid:x<1\/127<x
  ·rw[if_pos hid,if_pos hid]
  ·rw[if_neg hid,if_neg hid]
   cases hv:vt 0 0 t with
   |short=>rfl
   |form=>rfl
   |ok v k=>
    dsimp only
    by_cases hk:k+v+4<=t.length
    ·rw[if_pos hk,if_pos (show p+1+k+v+4<=l.length by omega)]
     dsimp only
     have d1:t.drop (k+v)=l.drop (p+1+k+v):=by rw[ht,List.drop_drop];congr 1;omega
     have d2:t.drop k=l.drop (p+1+k):=by rw[ht,List.drop_drop]
     have d3:t.drop (k+v+4)=l.drop (p+1+k+v+4):=by rw[ht,List.drop_drop];congr 1;omega
     have d4:x::t.take (k+v)=(l.drop p).take (p+1+k+v-p):=by
      rw[hd,show p+1+k+v-p=(k+v)+1 from by omega,List.take_succ_cons]
     rw[d1,d2,d3,d4,hx,show p+1+k+v-(p+1+k)=v from by omega]
    ·rw[if_neg hk,if_neg (show¬p+1+k+v+4<=l.length by omega)]
theorem aes(s:ByteArray):∀(k p:Nat),s.size-p<=k->
  (if(dU (au s) p).1.all (λc=>zI s (Fj c))then(if(dU (au s) p).2=0 then AL.ok ((dU (au s) p).1.map λc=>((au s).getD c.1 0,((au s).drop c.2.1).take (c.2.2-c.2.1)))else .bad (dU (au s) p).2)else .bad 4)=allL ((au s).drop p):=by
 intro k
 induction k with
 |zero=>
  intro p hk
  rw[jP (by rw[aC];omega),List.drop_eq_nil_of_le (by rw[aC];omega)]
  rfl
 |succ k ih=>
  intro p hk
  by_cases h:p<(au s).length
  ·have hp:=agS (au s) p
   have hne:(au s).drop p≠[]:=by
    intro e
    have:=List.drop_eq_nil_iff.1 e
    omega
   rw[yK hne]
   cases hr:rd (au s) p with
   |bad e=>
    rw[hr]at hp
    dsimp only at hp
    rw[oQ h hr,hp]
    have he:=Ic hr
    dsimp only
    rw[List.all_nil,if_pos rfl,if_neg (by omega)]
   |ok a b n=>
    obtain⟨h1,h2,h3,h4,h5⟩:=FB hr
    rw[hr]at hp
    dsimp only at hp
    rw[aC]at h5 h
    have hi:=ih (n+4) (by omega)
    rw[oU (by rw[aC];exact h) hr,hp]
    dsimp only
    rw[List.all_cons,agR]
    by_cases hs:((au s).drop n).take 4=le4 (ni (((au s).drop a).take (n-a)))
    ·rw[if_pos hs,decide_eq_true hs,Bool.true_and]
     dsimp only
     rw[<-hi]
     by_cases hall:(dU (au s) (n+4)).1.all (λc=>zI s (Fj c))=true
     ·rw[if_pos hall,if_pos hall]
      by_cases he:(dU (au s) (n+4)).2=0
      ·rw[if_pos he,if_pos he];rfl
      ·rw[if_neg he,if_neg he]
     ·rw[if_neg hall,if_neg hall]
    ·rw[if_neg hs,decide_eq_false hs,Bool.false_and,if_neg (by simp)]
  ·rw[jP h,List.drop_eq_nil_of_le (by omega)]
   rfl
def toF(f:Fr):lX:=((f.1:Int),dL f.2)
def ofF(f:lX):Fr:=(f.1.toNat,au f.2)
theorem X6(s:ByteArray):gQ s=match allL (au s)with
  | .ok fs=>(fs.map toF,0)
  | .bad e=>([],e):=by
 have h:=aes s s.size 0 (by omega)
 rw[List.drop_zero]at h
 rw[<-h]
 unfold gQ
 by_cases hall:(dU (au s) 0).1.all (λc=>zI s (Fj c))=true
 ·rw[if_pos hall,if_pos hall]
  by_cases he:(dU (au s) 0).2=0
  ·rw[if_pos he,if_pos he]
   dsimp only
   rw[List.map_map]
   congr 1
   refine List.map_congr_left λc hc=> ?_
   unfold yP toF
   dsimp only[Function.comp]
   rw[<-iP,zO]
  ·rw[if_neg he,if_neg he]
 ·rw[if_neg hall,if_neg hall]
theorem toF_ofF{f:lX}(h:yQ f):toF (ofF f)=f:=by
 unfold toF ofF
 refine Prod.ext ?_ (zO _)
 dsimp only
 have:=h.1
 omega
theorem X7{f:lX}(h:yQ f)(hs:f.2.size<18446744073709551616):(ofF f).Ok:=by
 unfold ofF Fr.Ok
 dsimp only
 obtain⟨h1,h2⟩:=h
 exact⟨⟨by omega,by omega⟩,FC _,by rw[aC];exact hs⟩
theorem aa6{fs:List lX}(h:∀f∈fs,yQ f):au ⟨(nG fs).toArray⟩=joinL (fs.map ofF):=by
 induction fs with
 |nil=>rfl
 |cons f fs ih=>
  have e:au ⟨(nG (f::fs)).toArray⟩=au (jD f.1.toNat f.2)++au ⟨(nG fs).toArray⟩:=by simp[nG,Dx,au]
  have:=h f (by simp)
  rw[e,ih (λg hg=>h g (List.mem_cons_of_mem _ hg)),Dy _ (by have:=this.2;omega),List.map_cons,Di]
  rfl
end Go.Proofs.YtlncengggmgdgaaGreat.fr
namespace Go.Proofs.YtlncengggmgdgaaGreat.fr
open Go Go.RowKit cm cw ga gr fl
variable {HC : Code}
attribute [local irreducible] par.ah
def Fine(fs:List lX):Prop:=∀f∈fs,yQ f/\f.2.size<=100000
theorem Fine.ok{fs:List lX}(h:Fine fs):∀f∈fs,yQ f:=λf hf=>(h f hf).1
theorem Fine.fr{fs:List lX}(h:Fine fs):∀f∈fs.map ofF,f.Ok:=λf hf=>by
 obtain⟨g,hg,rfl⟩:=List.mem_map.1 hf
 exact X7 (h g hg).1 (by have:=(h g hg).2;omega)
theorem Fine.take{fs:List lX}(h:Fine fs)(k:Nat):Fine (fs.take k):=λf hf=>h f (List.mem_of_mem_take hf)
def jB(fs:List lX):ByteArray:=⟨(nG fs).toArray⟩
theorem agT{fs:List lX}(h:Fine fs):au (jB fs)=joinL (fs.map ofF):=aa6 h.ok
theorem aa7{fs:List lX}(h:Fine fs):jq fs=(jB fs,0):=by unfold jq jB;rw[if_pos h.ok]
theorem X8(a b:List lX):jB (a++b)=jB a++jB b:=by
 apply ByteArray.ext
 apply Array.toList_inj.1
 simp[jB,nG]
theorem aeu(f:lX):jB [f]=jD f.1.toNat f.2:=by
 apply ByteArray.ext
 apply Array.toList_inj.1
 simp[jB,nG,Dx]
theorem vk{fs:List lX}(h:Fine fs):gQ (jB fs)=(fs,0):=by
 rw[X6,agT h,Tt h.fr]
 dsimp only
 rw[List.map_map]
 congr 1
 conv=>rhs;rw[<-List.map_id fs]
 exact List.map_congr_left λf hf=>toF_ofF (h f hf).1
theorem X9(fs:List lX)(k:Nat):jB fs=jB (fs.take k)++jB (fs.drop k):=by rw[<-X8,List.take_append_drop]
theorem aa8(fs:List lX){k:Nat}(h:k<fs.length):jB (fs.take (k+1))=jB (fs.take k)++jD (fs.getD k (0,⟨#[]⟩)).1.toNat (fs.getD k (0,⟨#[]⟩)).2:=by
 rw[<-aeu,<-X8]
 congr 1
 rw[List.take_add_one]
 congr 1
 simp[List.getD,h]
theorem aa9(a b:ByteArray)(k:Nat):(a++b).extract 0 (a.size+k)=a++b.extract 0 k:=by
 apply qp
 rw[iP,jE,jE,iP]
 simp only[List.drop_zero,Nat.sub_zero]
 rw[<-aC,List.take_append,List.take_of_length_le (by omega),Nat.add_sub_cancel_left]
theorem Ya(fs:List lX)(k:Nat):∀n,n<=fs.length->k<(jB (fs.take n)).size->∃i,i<n/\(jB (fs.take i)).size<=k/\k<(jB (fs.take (i+1))).size:=by
 intro n
 induction n with
 |zero=>intro _ h;simp[jB,nG,ByteArray.size]at h
 |succ n ih=>
  intro hn h
  by_cases h2:k<(jB (fs.take n)).size
  ·obtain⟨i,h3,h4⟩:=ih (by omega) h2
   exact⟨i,by omega,h4⟩
  ·exact⟨n,by omega,by omega,h⟩
theorem DC{fs:List lX}(h:Fine fs){k:Nat}(hk:k<=(jB fs).size)(hn:∀i,i<=fs.length->¬(jB (fs.take i)).size=k):gQ ((jB fs).extract 0 k)=([],2):=by
 have hL:=hn fs.length (Nat.le_refl _)
 rw[List.take_length]at hL
 obtain⟨i,h1,h2,h3⟩:=Ya fs k fs.length (Nat.le_refl _) (by rw[List.take_length];omega)
 have h4:=hn i (by omega)
 have hs:=aa8 fs h1
 have hm:fs.getD i (0,⟨#[]⟩)∈fs:=by simp[List.getD,h1]
 obtain⟨hf,hfs⟩:=h _ hm
 generalize fs.getD i (0,⟨#[]⟩)=f at*
 rw[hs,ByteArray.size_append]at h3
 have e:(jB fs).extract 0 k=jB (fs.take i)++(jD f.1.toNat f.2).extract 0 (k-(jB (fs.take i)).size):=by
  have:=aa9 (jB (fs.take i)) (jD f.1.toNat f.2++jB (fs.drop (i+1))) (k-(jB (fs.take i)).size)
  rw[<-ByteArray.append_assoc,<-hs,<-X9,Nat.add_sub_cancel' h2]at this
  rw[this]
  congr 1
  apply qp
  rw[iP,iP,jE]
  simp only[List.drop_zero,Nat.sub_zero]
  rw[List.take_append_of_le_length (by rw[aC];omega)]
 rw[X6,e,jE,agT (h.take i),yL _ _ (h.take i).fr,iP,Dy _ (by have:=hf.2;omega)]
 have hcut:pf ((UG f.1.toNat (au f.2)).take (k-(jB (fs.take i)).size))=.bad 2:=aee (f:=ofF f) (X7 hf (by omega)) (m:=k-(jB (fs.take i)).size) (by omega) (by
  have:=Dy (id:=f.1.toNat) f.2 (by have:=hf.2;omega)
  have h5:=congrArg List.length this
  rw[aC]at h5
  show _<(UG f.1.toNat (au f.2)).length
  rw[<-h5]
  omega)
 simp only[List.drop_zero,Nat.sub_zero]
 rw[yK,hcut]
 ·rfl
 ·intro e2
  have e4:=List.take_eq_nil_iff.1 e2
  rcases e4 with e4|e4
  ·omega
  ·rw[rW]at e4;cases e4
end Go.Proofs.YtlncengggmgdgaaGreat.fr
