/- Rows of bytes of one's own; words.PutHalf. LONE=1. No conditions. -/
import Derived.Test.YtlncengggmgdgaaGreatG18
import Derived.Test.YtlncengggmgdgaaGreatG19
import Derived.Laws.BytesArg
import Derived.Laws.IdiomStrings
import Derived.Laws.AppendOwn
import Derived.Maps.AppendAt
import Derived.Laws.OwnMore
import Derived.Deep.RegionHeld3
import Derived.Laws.StructEq
set_option linter.unusedVariables false
set_option linter.unusedSimpArgs false
set_option maxRecDepth 100000
namespace Go.Proofs.YtlncengggmgdgaaGreat.fr
open Go.RowKit cm cw
variable {HC : Code}
attribute [local irreducible] par.ah
theorem NZ{P:Program}{ops:Array Oper}{rest:List Oper}{o:Oper}{a:Act}{Q:Exit->Act->World->Prop}(w:World)(hw:Region.wanted o (yielded ops a.tmps)=true)(s x:Operand)(t:TypeId)
  (ho:o.op=.call {callee:=.builtin .append,args:= #[s,x],argTypes:= #[t,t]})
  (base:Nat) (e:TypeId) (i:TypeInfo) (z:Value) (size bytes:Nat) (ht:P.underlying t=some (.slice e)) (hi:P.info? e=some i) (hz:i.zero=some z)
  (hsize:i.size=size) (hby:i.bytes=bytes) (hzs:z.cells.size=size) (hsz:0<size)
  (v:Value) (n:Nat) (xs:List Value) (hs:a.eval s=v) (hown:w.ownsRow base e size v n xs)
  (u:Value) (m:Nat) (news:List Value) (hx:a.eval x=u) (hsrc:(u=.slice none 0 0/\m=0/\news=[])\/∃ad c,u=.slice (some ad) m c/\∀j y,news[j]? =some y->w.cell? (ad.add j)=some y)
  (hl:news.length=m*size) (h1:∀u∈news,u.oneCell'=true)
  (h63:n+m<=maxLen) (hbytes:(n+m)*bytes<=140737488355328) (hbase:base<=w.heap.size)
  (h:∀v' w',w'.ownsRow base e size v' (n+m) (xs++news)->w.grownBy w' v.ownBlock->(v'.ownBlock=v.ownBlock\/v'.ownBlock=some w.heap.size)->wpList P ops Q rest (a.put o.dst v') w'):wpList P ops Q (o::rest) a w:=by
 refine wpList_step λK hK=> ?_
 rw[if_pos hw]
 rcases hsrc with⟨rfl,rfl,rfl⟩|⟨ad,c,rfl,hnews⟩
 ·have hr:=run_append_owned_none (P:=P) (w:=w) base t o.type e i size ht hi v n xs hown
  unfold Oper.wp execOp
  simp only[ho,resolve,invoke,builtin,Sem.run_bind,Sem.run_pure,Result.andThen_ok,List.map_toArray,List.map_cons,List.map_nil,hs,hx,hr]
  exact hK _ _ (h v w (by simpa using hown) ⟨rfl,rfl,rfl,Nat.le_refl _,λ_ _ _=>rfl⟩ (.inl rfl))
 ·obtain⟨v',w',hr,h2,h3,h4,h5⟩:=run_append_own_at (P:=P) w base t o.type e i z size bytes ht hi hz hsize hby hzs hsz v n xs hown ad m c news hl hnews h1 h63 hbytes hbase
  unfold Oper.wp execOp
  simp only[ho,resolve,invoke,builtin,Sem.run_bind,Sem.run_pure,Result.andThen_ok,List.map_toArray,List.map_cons,List.map_nil,hs,hx,hr]
  exact hK _ _ (h v' w' h2 h3 h5)
theorem below_grown{A B:World}(h:Below A.heap.size A B)(row:Option Nat):A.grownBy B row:=⟨h.os,h.tape,h.output,h.size,λk hk _=>h.block k hk⟩
theorem grown_below{C:Nat}{w w':World}{v:Value}{W:World}(hg:w.grownBy w' v.ownBlock)(hb:Below C W w)(hC:C<=W.heap.size)(ho:∀k,v.ownBlock=some k->C<=k):Below C W w':=
 ⟨hg.os.trans hb.os,hg.tape.trans hb.tape,hg.output.trans hb.output,Nat.le_trans hb.size hg.size,λj hj=>(hg.block j (by have:=hb.size;omega) (λe=>by have:=ho _ e.symm;omega)).trans (hb.block j hj)⟩
theorem mg{C:Nat}{W w:World}(h:Below C W w)(hC:C<=W.heap.size)(o:Obj):Below C W (w.alloc o):=
 ⟨h.os,h.tape,h.output,by have:=h.size;show _<=(w.heap.push _).size;simp;omega,λj hj=>(Below.heap_alloc w o j (by have:=h.size;omega)).trans (h.block j hj)⟩
def qH(x:Nat):Value:=.int .u8 (x:Int)
def OwnB(W:World)(B:Nat)(v:Value)(zs:List Nat):Prop:=W.ownsRow B 5 1 v zs.length (zs.map qH)
theorem OwnB.nil(W:World)(B:Nat):OwnB W B (.slice none 0 0) []:=World.ownsRow_nil _ _ _ _
theorem OwnB.tr{W w:World}{B:Nat}{v:Value}{zs:List Nat}(h:OwnB W B v zs)(hb:Below W.heap.size W w):OwnB w B v zs:=by
 refine World.ownsRow.kept h (below_grown hb none) ?_
 rcases hv:v.ownBlock with _|k
 ·exact .inl rfl
 ·exact .inr (λe=>by cases e)
theorem OwnB.block{W:World}{B:Nat}{v:Value}{zs:List Nat}(h:OwnB W B v zs):∀k,v.ownBlock=some k->B<=k:=by
 intro k hk
 rcases h.2 with⟨rfl,_⟩|⟨g,cap,cur,rfl,h2,_⟩
 ·cases hk
 ·cases hk
  exact h2
theorem OwnB.str{W:World}{B:Nat}{v:Value}{zs:List Nat}(h:OwnB W B v zs)(hz:0<zs.length):
  (convert 92 9 v).run (par.ah HC) W=.ok (.string (strOfNums (zs.map λb:Nat=>(b:Int)))) W:=by
 rcases h.2 with⟨rfl,h1⟩|⟨g,cap,cur,rfl,h1,h2,h3,h4,h5,h6⟩
 ·omega
 ·refine run_convert_bytes_arg (P:=(par.ah HC)) W 92 5 ((par.aB HC 92).trans Tryz.underlying92) ((par.aB HC 5).trans Tryz.underlying5) g 0 zs.length cap (zs.map λb:Nat=>(b:Int)) (by simp) (λi hi=> ?_) 9 ((par.aB HC 9).trans Tryz.underlying9)
  have h7:=World.ownsRow.cells h (g:=g) rfl i (qH (zs.getD i 0)) (by simp[List.getD,List.getElem?_eq_getElem hi])
  have e:(⟨g,0,none⟩:Addr).add i=⟨g,i,none⟩:=by unfold Addr.add;split<;>simp_all
  rw[e]at h7
  rw[Nat.zero_add,h7]
  simp[qH,List.getD,hi]
theorem aaE:((par.ah HC).info? 5).map (λi=>(i.zero,i.size,i.bytes))=some (some (.int .u8 0),1,1):=by kernel_rfl
theorem Fg{ops:Array Oper}{rest:List Oper}{o:Oper}{a:Act}{Q:Exit->Act->World->Prop}(w:World)(hw:Region.wanted o (yielded ops a.tmps)=true)(s x:Operand)
  (ho:o.op=.call {callee:=.builtin .append,args:= #[s,x],argTypes:= #[92,92]})
  (B:Nat) (v:Value) (xs:List Nat) (y n c:Nat) (hs:a.eval s=v) (hx:a.eval x=.slice (some ⟨n,0,none⟩) 1 c) (hown:OwnB w B v xs) (hc:w.cell? ⟨n,0,none⟩=some (qH y)) (hbig:xs.length+1<1000000000000) (hB:B<=w.heap.size)
  (h:∀v' w',OwnB w' B v' (xs++[y])->w.grownBy w' v.ownBlock->(v'.ownBlock=v.ownBlock\/v'.ownBlock=some w.heap.size)->wpList (par.ah HC) ops Q rest (a.put o.dst v') w'):wpList (par.ah HC) ops Q (o::rest) a w:=by
 obtain⟨i0,hi,hz0,hz1,hz2⟩:=info_parts aaE
 refine NZ w hw s x _ ho B 5 i0 (.int .u8 0) 1 1 ((par.aB HC 92).trans Tryz.underlying92) hi hz0 hz1 hz2 rfl (by decide) v xs.length (xs.map qH) hs hown _ 1 [qH y] hx (.inr ⟨_,_,rfl,λj z hj=> ?_⟩) rfl (λu hu=> ?_) (by unfold maxLen;omega) (by omega) hB ?_
 ·rcases j with _|j
  ·cases hj
   exact hc
  ·simp at hj
 ·obtain rfl:=List.mem_singleton.1 hu
  rfl
 ·intro v' w' h2 h3 h4
  refine h v' w' ?_ h3 h4
  unfold OwnB
  simpa using h2
end Go.Proofs.YtlncengggmgdgaaGreat.fr
namespace Go.Proofs.YtlncengggmgdgaaGreat.fr
open Go.RowKit cm cw
variable {HC : Code}
attribute [local irreducible] par.ah
def leB(n x:Nat):List Nat:=(List.range n).map λi=>x/256^i%256
theorem wY(n x:Nat):leB (n+1) x=leB n x++[x/256^n%256]:=by simp[leB,List.range_succ]
theorem tJ(n x:Nat):(leB n x).length=n:=by simp[leB]
theorem abU(x:Nat):leB 4 x=le4 x:=by
 show [x/256^0%256,x/256^1%256,x/256^2%256,x/256^3%256]=_
 unfold le4
 simp
def dL(l:List Nat):ByteArray:=strOfNums (l.map λb:Nat=>(b:Int))
theorem SQ(v:Value)(xs:List Nat)(x B n:Nat)(w:World)(hn:n<=8)(hx:x<4294967296)(hv:OwnB w B v xs)(hl:xs.length<1000000)(hB:B<=w.heap.size):
  Calls (par.ah HC) 184 #[v,.int .u32 x,.int .i64 n] w λe w'=>∃v',e=.returned v'/\OwnB w' B v' (xs++leB n x)/\Below B w w':=by
 go_enter (par.aak (H:=HC)),Tryz.ntmps184
 go_wp2_with fail
 go_loopw [0,1,8] (λb y i wr=>∃k:Nat,k<=n/\i=.int .i64 k/\y=.int .u32 ((x/256^k:Nat):Int)/\Hid (OwnB wr B b (xs++leB k x))/\Hid (Below B w wr)) (λ_ _ i _=>n-(intOf i).toNat)
 case atStart=>exact⟨0,Nat.zero_le _,rfl,by simp,Lib.hid (by simpa [leB]using hv),Lib.hid (Below.refl _ _)⟩
 case round=>
  obtain⟨k,hk,rfl,rfl,ho,hb⟩:=hrel
  by_cases hlk:k<n
  ·have hq:x/256^k<4294967296:=Nat.lt_of_le_of_lt (Nat.div_le_self _ _) hx
   have hq2:=wY k x
   have hq3:x/256^(k+1)=x/256^k/256:=by rw[Nat.pow_succ,Nat.div_div_eq_div_mul]
   have HQ:=Lib.hid hq2
   have HR:=Lib.hid hq3
   clear hq2 hq3
   generalize x/256^k=q at*
   have hwr:=hb.out.size
   go_wp2_with (at_builtin;refine Fg _ rfl _ _ rfl B u0 (xs++leB k x) (q%256) wr.heap.size 1 rfl rfl ?c0 ?c1 ?c2 ?c3 ?c4)
   case c0=>exact ho.out.tr (by exact bm)
   case c1=>simp[qH]
   case c2=>simp[tJ];omega
   case c3=>simp;omega
   case c4=>
   intro v' w2 ho2 hg hat
   have H2:Hid (OwnB w2 B v' (xs++leB (k+1) x)):=Lib.hid (by rw[HQ.out];simpa using ho2)
   have H3:Hid (Below B w w2):=Lib.hid (grown_below hg (mg hb.out hB _) hB ho.out.block)
   clear ho2 hg hat
   go_wp2_with fail
   refine⟨⟨k+1,by omega,by go_num,?_,H2,H3⟩,by simp[intOf];omega⟩
   rw[HR.out]
   rfl
  ·obtain rfl:k=n:=by omega
   go_wp2_with fail
   go_ret
   exact⟨_,rfl,ho.out,hb.out⟩
def jM(x:Nat):ByteArray:=dL (le4 x)
theorem J4(x:Nat)(w:World)(hx:x<4294967296):
  Calls (par.ah HC) 163 #[.int .u32 x] w λe w'=>e=.returned (.string (jM x))/\Below w.heap.size w w':=by
 go_enter (par.aae (H:=HC)),Tryz.ntmps163
 go_wp2_with fail
 refine(SQ (.slice none 0 0) [] x w.heap.size 4 _ (by omega) hx (OwnB.nil _ _) (by simp) (by simp)).mono ?_;rintro e w1 ⟨v,rfl,ho,hb⟩
 have hs:=ho.str (HC:=HC) (by simp[tJ])
 rw[List.nil_append,abU]at hs
 go_wp2_with fail
 go_ret
 exact⟨rfl,hb⟩
end Go.Proofs.YtlncengggmgdgaaGreat.fr
namespace Go.Proofs.YtlncengggmgdgaaGreat.fr
open Go.RowKit cm cw
variable {HC : Code}
attribute [local irreducible] par.ah
theorem next_any(a b s:Int)(w:World)(h1:0<=s)(h2:s<1000000000000):
  Calls (par.ah HC) 121 #[.agg #[.int .i64 a,.int .i64 b,.int .i64 s]] w λe w'=>e=.returned (.int .i64 (s+4))/\Below w.heap.size w w':=by
 go_enter (par.ZV (H:=HC)),Tryz.ntmps121
 go_wp2_with fail
 go_ret
 exact⟨rfl,by exact bm⟩
theorem abV{W w1:World}(hb:Below W.heap.size W w1){p0 p1 p2:Addr}{u0 u1 u2:Value}(h:W.cell? p0=some u0/\W.cell? p1=some u1/\W.cell? p2=some u2):
  w1.cell? p0=some u0/\w1.cell? p1=some u1/\w1.cell? p2=some u2:=⟨aJ hb h.1,aJ hb h.2.1,aJ hb h.2.2⟩
def zI(s:ByteArray)(c:Int×Int×Int):Bool:=s.extract c.2.2.toNat (c.2.2+4).toNat==jM (ni (au (s.extract c.1.toNat c.2.2.toNat)))
theorem yH(s:ByteArray)(a b n:Nat)(w:World)(hs:s.size<1000000000000)(h1:a<=n)(h2:n+4<=s.size):
  Calls (par.ah HC) 138 #[.agg #[.int .i64 a,.int .i64 b,.int .i64 n],.string s] w λe w'=>e=.returned (.bool (zI s (a,b,n)))/\Below w.heap.size w w':=by
 go_enter (par.GI (H:=HC)),Tryz.ntmps138
 go_wp2_with fail
 have hn:(n:Int)<1000000000000:=by omega
 have i1:(a:Int)<=(n:Int):=by omega
 have i2:(n:Int)<=(s.size:Int):=by omega
 have i3:(n:Int)+4<=(s.size:Int):=by omega
 have i4:(n:Int)<=(n:Int)+4:=by omega
 have i5:(0:Int)<=(n:Int):=by omega
 have i6:(0:Int)<=(a:Int):=by omega
 have i7:(0:Int)<=(n:Int)+4:=by omega
 have hM:((s.extract a n).size:Nat)<=maxLen:=by unfold maxLen;simp;omega
 have hS:=CV (au (s.extract a n)) (c:=0) (by omega) (bP _)
 change ni (au (s.extract a n))<_ at hS
 have HG:Hid (zI s (a,b,n)=(s.extract n ((n:Int)+4).toNat==jM (ni (au (s.extract a n))))):=Lib.hid rfl
 generalize hX:ni (au (s.extract a n))=X at*
 have HX:=Lib.hid hX
 clear hX
 generalize hW:w.alloc (.cells #[.int .i64 a,.int .i64 b,.int .i64 n] 178)=W
 have c0:W.cell? ⟨w.heap.size,0,none⟩=some (.int .i64 a):=by rw[<-hW];simp
 have c1:W.cell? ⟨w.heap.size,1,none⟩=some (.int .i64 b):=by rw[<-hW];simp
 have c2:W.cell? ⟨w.heap.size,2,none⟩=some (.int .i64 n):=by rw[<-hW];simp
 have hbW:Below w.heap.size w W:=by rw[<-hW];exact bm
 have hWs:=hbW.size
 clear hW
 go_region_held3 (λw'=>w'.cell? ⟨w.heap.size,0,none⟩=some (.int .i64 (a:Int))/\w'.cell? ⟨w.heap.size,1,none⟩=some (.int .i64 (b:Int))/\w'.cell? ⟨w.heap.size,2,none⟩=some (.int .i64 (n:Int)))
  (first|go_keep|(refine abV (W:=W) ?_ ⟨c0,c1,c2⟩;exact bm))
  (first
   |(go_at_call 121;refine(next_any _ _ _ _ (by omega) hn).mono ?_;rintro e w1 ⟨rfl,k1⟩)
   |(go_at_call 164;refine(sum_any _ _ hM).mono ?_;rintro e w2 ⟨rfl,k2⟩;rw[HX.out])
   |(go_at_call 163;refine(J4 _ _ hS).mono ?_;rintro e w3 ⟨rfl,k3⟩))
 go_wp2_with fail
 go_ret
 exact⟨by rw[HG.out,beq_toListBytes];rfl,aP (aP (aP (GN hbW) k1) k2) k3⟩
theorem Ql{s:ByteArray}{c:Int×Int×Int}(h0:0<=c.1)(h1:0<=c.2.1)(h2:c.1<=c.2.2)(h3:c.2.2+4<=(s.size:Int)):∃a b n:Nat,c=((a:Int),(b:Int),(n:Int))/\a<=n/\n+4<=s.size:=by
 obtain⟨x,y,z⟩:=c
 dsimp only at*
 obtain⟨a,rfl⟩:=Int.eq_ofNat_of_zero_le h0
 obtain⟨b,rfl⟩:=Int.eq_ofNat_of_zero_le h1
 obtain⟨n,rfl⟩:=Int.eq_ofNat_of_zero_le (show 0<=z by omega)
 exact⟨a,b,n,rfl,by omega,by omega⟩
end Go.Proofs.YtlncengggmgdgaaGreat.fr
