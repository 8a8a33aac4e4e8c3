/- Rows of one's own; append; pick, Shape. No conditions. -/
import Derived.Test.YtpgjploaliefdaaGreatSa
import Derived.Maps.AppendAt
import Derived.Laws.AppendOwn
import Derived.Laws.OwnMore
import Derived.Test.YtpgjploaliefdaaGreatG02
namespace Go.Proofs.YtpgjploaliefdaaGreat.ob
open Go.RowKit hd
set_option linter.unusedVariables false
set_option linter.unusedSimpArgs false
theorem mW{P:Program}{ops:Array Oper}{rest:List Oper}{o:Oper}{a:Act}{Q:Exit->Act->World->Prop}(w:World)(hw:Region.wanted o (yielded ops a.tmps)=true)(s x:Operand)(t:TypeId)
  (ho:o.op=.call {callee:=.builtin .append,args:= #[s,x],argTypes:= #[t,t]})
  (base:Nat) (e:TypeId) (i:TypeInfo) (z:Value) (size bytes:Nat) (ht:P.underlying t=some (.slice e)) (hi:P.info? e=some i) (hz:i.zero=some z)
  (hsize:i.size=size) (hby:i.bytes=bytes) (hzs:z.cells.size=size) (hsz:0<size)
  (v:Value) (n:Nat) (xs:List Value) (hs:a.eval s=v) (hown:w.ownsRow base e size v n xs)
  (u:Value) (m:Nat) (news:List Value) (hx:a.eval x=u) (hsrc:(u=.slice none 0 0/\m=0/\news=[])\/∃ad c,u=.slice (some ad) m c/\∀j y,news[j]? =some y->w.cell? (ad.add j)=some y)
  (hl:news.length=m*size) (h1:∀u∈news,u.oneCell'=true)
  (h63:n+m<=maxLen) (hbytes:(n+m)*bytes<=140737488355328) (hbase:base<=w.heap.size)
  (h:∀v' w',w'.ownsRow base e size v' (n+m) (xs++news)->w.grownBy w' v.ownBlock->(v'.ownBlock=v.ownBlock\/v'.ownBlock=some w.heap.size)->wpList P ops Q rest (a.put o.dst v') w'):wpList P ops Q (o::rest) a w:=by
 refine wpList_step λK hK=> ?_
 rw[if_pos hw]
 rcases hsrc with⟨rfl,rfl,rfl⟩|⟨ad,c,rfl,hnews⟩
 ·have hr:=run_append_owned_none (P:=P) (w:=w) base t o.type e i size ht hi v n xs hown
  unfold Oper.wp execOp
  simp only[ho,resolve,invoke,builtin,Sem.run_bind,Sem.run_pure,Result.andThen_ok,List.map_toArray,List.map_cons,List.map_nil,hs,hx,hr]
  exact hK _ _ (h v w (by simpa using hown) ⟨rfl,rfl,rfl,Nat.le_refl _,λ_ _ _=>rfl⟩ (.inl rfl))
 ·obtain⟨v',w',hr,h2,h3,h4,h5⟩:=run_append_own_at (P:=P) w base t o.type e i z size bytes ht hi hz hsize hby hzs hsz v n xs hown ad m c news hl hnews h1 h63 hbytes hbase
  unfold Oper.wp execOp
  simp only[ho,resolve,invoke,builtin,Sem.run_bind,Sem.run_pure,Result.andThen_ok,List.map_toArray,List.map_cons,List.map_nil,hs,hx,hr]
  exact hK _ _ (h v' w' h2 h3 h5)
theorem rY:(Tryz.prog.info? 24).map (λi=>(i.zero,i.size,i.bytes))=some (some (.int .u64 0),1,8):=by kernel_rfl
theorem Du:(Tryz.prog.info? 3).map (λi=>(i.zero,i.size,i.bytes))=some (some (.int .i64 0),1,8):=by kernel_rfl
def aT(W:World)(B:Nat)(v:Value)(zs:List Int):Prop:=W.ownsRow B 24 1 v zs.length (zs.map (λn:Int=>Value.int .u64 n))
theorem aT.nil(W:World)(B:Nat):aT W B (.slice none 0 0) []:=World.ownsRow_nil _ _ _ _
theorem aT.tr{W w:World}{B:Nat}{v:Value}{zs:List Int}(h:aT W B v zs)(hb:Below W.heap.size W w):aT w B v zs:=by
 refine World.ownsRow.kept h (below_grown hb none) ?_
 rcases hv:v.ownBlock with _|k
 ·exact .inl rfl
 ·exact .inr (λe=>by cases e)
theorem aT.lift{W:World}{B C:Nat}{v:Value}{zs:List Int}(h:aT W B v zs)(hb:C<=B):aT W C v zs:=by
 refine⟨h.1,?_⟩
 rcases h.2 with h|⟨g,cap,cur,h1,h2,h3⟩
 ·exact .inl h
 ·exact .inr ⟨g,cap,cur,h1,by omega,h3⟩
theorem aT.sees{W:World}{B:Nat}{v:Value}{zs:List Int}(h:aT W B v zs)(h0:0<W.heap.size)(hl:zs.length<1000000000000):aN W v zs:=by
 rcases h.2 with⟨rfl,h1⟩|⟨g,cap,cur,rfl,h1,h2,h3,h4,h5,h6⟩
 ·have hz:zs=[]:=List.eq_nil_of_length_eq_zero h1
  subst hz
  exact aN.nil h0
 ·refine⟨some ⟨g,0,none⟩,g,0,cap,rfl,⟨λ_=>rfl,λe=>by cases e⟩,h3,⟨by unfold maxLen at h4;omega,hl⟩,?_,jH λi hi=> ?_⟩
  ·rcases Nat.lt_or_ge g W.heap.size with h7|h7
   ·exact h7
   ·rw[Array.getElem?_eq_none h7]at h2;cases h2
  ·have h7:=World.ownsRow.cells h (g:=g) rfl i (.int .u64 (zs.getD i 0)) (by simp[List.getD,List.getElem?_eq_getElem hi])
   have e:(⟨g,0,none⟩:Addr).add i=⟨g,i,none⟩:=by unfold Addr.add;split<;>simp_all
   rw[e]at h7
   simpa using h7
theorem BM{w:World}{u:Value}{ys:List Int}(h:aN w u ys):(u=.slice none 0 0/\ys.length=0/\(ys.map (λn:Int=>Value.int .u64 n))=[])\/∃ad c,u=.slice (some ad) ys.length c/\∀j y,(ys.map (λn:Int=>Value.int .u64 n))[j]? =some y->w.cell? (ad.add j)=some y:=by
 obtain⟨ad,b,off,cap,rfl,⟨h1,h2⟩,h3,h4,h5,h6⟩:=h
 rcases ad with _|ad
 ·have hz:ys=[]:=by
   rcases Nat.eq_zero_or_pos ys.length with e|e
   ·exact List.eq_nil_of_length_eq_zero e
   ·cases h1 e
  subst hz
  rw[h2 rfl]
  exact .inl ⟨rfl,rfl,rfl⟩
 ·refine .inr ⟨ad,cap,rfl,λj y hj=> ?_⟩
  have hl:j<ys.length:=by
   rcases Nat.lt_or_ge j ys.length with e|e
   ·exact e
   ·simp[e]at hj
  have h7:=h1 (by omega)
  cases h7
  have e:(⟨b,off,none⟩:Addr).add j=⟨b,off+j,none⟩:=by unfold Addr.add;split<;>simp_all
  rw[e,h6.at j hl,<-hj]
  simp[List.getD,hl]
theorem BN(ys:List Int):∀u∈ys.map (λn:Int=>Value.int .u64 n),u.oneCell'=true:=by
 intro u hu
 obtain⟨b,_,rfl⟩:=List.mem_map.1 hu
 rfl
theorem kZ{ops:Array Oper}{rest:List Oper}{o:Oper}{a:Act}{Q:Exit->Act->World->Prop}(w:World)(hw:Region.wanted o (yielded ops a.tmps)=true)(s x:Operand)
  (ho:o.op=.call {callee:=.builtin .append,args:= #[s,x],argTypes:= #[29,29]})
  (B:Nat) (v u:Value) (xs ys:List Int) (hs:a.eval s=v) (hx:a.eval x=u) (hown:aT w B v xs) (hys:aN w u ys) (hbig:xs.length+ys.length<1000000000000) (hB:B<=w.heap.size)
  (h:∀v' w',aT w' B v' (xs++ys)->w.grownBy w' v.ownBlock->(v'.ownBlock=v.ownBlock\/v'.ownBlock=some w.heap.size)->wpList Tryz.prog ops Q rest (a.put o.dst v') w'):wpList Tryz.prog ops Q (o::rest) a w:=by
 obtain⟨i0,hi,hz0,hz1,hz2⟩:=info_parts rY
 refine mW w hw s x _ ho B 24 i0 (.int .u64 0) 1 8 Tryz.underlying29 hi hz0 hz1 hz2 rfl (by decide) v xs.length (xs.map (λn:Int=>Value.int .u64 n)) hs hown u ys.length (ys.map (λn:Int=>Value.int .u64 n)) hx (BM hys) (by simp) (BN ys) (by unfold maxLen;omega) (by omega) hB ?_
 intro v' w' h2 h3 h4
 refine h v' w' ?_ h3 h4
 unfold aT
 simpa using h2
def dH(W:World)(B:Nat)(v:Value)(zs:List Int):Prop:=W.ownsRow B 3 1 v zs.length (zs.map (λn:Int=>Value.int .i64 n))
theorem dH.nil(W:World)(B:Nat):dH W B (.slice none 0 0) []:=World.ownsRow_nil _ _ _ _
theorem dH.tr{W w:World}{B:Nat}{v:Value}{zs:List Int}(h:dH W B v zs)(hb:Below W.heap.size W w):dH w B v zs:=by
 refine World.ownsRow.kept h (below_grown hb none) ?_
 rcases hv:v.ownBlock with _|k
 ·exact .inl rfl
 ·exact .inr (λe=>by cases e)
theorem dH.lift{W:World}{B C:Nat}{v:Value}{zs:List Int}(h:dH W B v zs)(hb:C<=B):dH W C v zs:=by
 refine⟨h.1,?_⟩
 rcases h.2 with h|⟨g,cap,cur,h1,h2,h3⟩
 ·exact .inl h
 ·exact .inr ⟨g,cap,cur,h1,by omega,h3⟩
theorem dH.sees{W:World}{B:Nat}{v:Value}{zs:List Int}(h:dH W B v zs)(h0:0<W.heap.size)(hl:zs.length<1000000000000):IntsIn W v zs:=by
 rcases h.2 with⟨rfl,h1⟩|⟨g,cap,cur,rfl,h1,h2,h3,h4,h5,h6⟩
 ·have hz:zs=[]:=List.eq_nil_of_length_eq_zero h1
  subst hz
  exact IntsIn.nil h0
 ·refine⟨some ⟨g,0,none⟩,g,0,cap,rfl,⟨λ_=>rfl,λe=>by cases e⟩,h3,⟨by unfold maxLen at h4;omega,hl⟩,?_,G6 λi hi=> ?_⟩
  ·rcases Nat.lt_or_ge g W.heap.size with h7|h7
   ·exact h7
   ·rw[Array.getElem?_eq_none h7]at h2;cases h2
  ·have h7:=World.ownsRow.cells h (g:=g) rfl i (.int .i64 (zs.getD i 0)) (by simp[List.getD,List.getElem?_eq_getElem hi])
   have e:(⟨g,0,none⟩:Addr).add i=⟨g,i,none⟩:=by unfold Addr.add;split<;>simp_all
   rw[e]at h7
   simpa using h7
theorem I4{w:World}{u:Value}{ys:List Int}(h:IntsIn w u ys):(u=.slice none 0 0/\ys.length=0/\(ys.map (λn:Int=>Value.int .i64 n))=[])\/∃ad c,u=.slice (some ad) ys.length c/\∀j y,(ys.map (λn:Int=>Value.int .i64 n))[j]? =some y->w.cell? (ad.add j)=some y:=by
 obtain⟨ad,b,off,cap,rfl,⟨h1,h2⟩,h3,h4,h5,h6⟩:=h
 rcases ad with _|ad
 ·have hz:ys=[]:=by
   rcases Nat.eq_zero_or_pos ys.length with e|e
   ·exact List.eq_nil_of_length_eq_zero e
   ·cases h1 e
  subst hz
  rw[h2 rfl]
  exact .inl ⟨rfl,rfl,rfl⟩
 ·refine .inr ⟨ad,cap,rfl,λj y hj=> ?_⟩
  have hl:j<ys.length:=by
   rcases Nat.lt_or_ge j ys.length with e|e
   ·exact e
   ·simp[e]at hj
  have h7:=h1 (by omega)
  cases h7
  have e:(⟨b,off,none⟩:Addr).add j=⟨b,off+j,none⟩:=by unfold Addr.add;split<;>simp_all
  rw[e,h6.at j hl,<-hj]
  simp[List.getD,hl]
theorem I5(ys:List Int):∀u∈ys.map (λn:Int=>Value.int .i64 n),u.oneCell'=true:=by
 intro u hu
 obtain⟨b,_,rfl⟩:=List.mem_map.1 hu
 rfl
theorem lu{ops:Array Oper}{rest:List Oper}{o:Oper}{a:Act}{Q:Exit->Act->World->Prop}(w:World)(hw:Region.wanted o (yielded ops a.tmps)=true)(s x:Operand)
  (ho:o.op=.call {callee:=.builtin .append,args:= #[s,x],argTypes:= #[23,23]})
  (B:Nat) (v u:Value) (xs ys:List Int) (hs:a.eval s=v) (hx:a.eval x=u) (hown:dH w B v xs) (hys:IntsIn w u ys) (hbig:xs.length+ys.length<1000000000000) (hB:B<=w.heap.size)
  (h:∀v' w',dH w' B v' (xs++ys)->w.grownBy w' v.ownBlock->(v'.ownBlock=v.ownBlock\/v'.ownBlock=some w.heap.size)->wpList Tryz.prog ops Q rest (a.put o.dst v') w'):wpList Tryz.prog ops Q (o::rest) a w:=by
 obtain⟨i0,hi,hz0,hz1,hz2⟩:=info_parts Du
 refine mW w hw s x _ ho B 3 i0 (.int .i64 0) 1 8 Tryz.underlying23 hi hz0 hz1 hz2 rfl (by decide) v xs.length (xs.map (λn:Int=>Value.int .i64 n)) hs hown u ys.length (ys.map (λn:Int=>Value.int .i64 n)) hx (I4 hys) (by simp) (I5 ys) (by unfold maxLen;omega) (by omega) hB ?_
 intro v' w' h2 h3 h4
 refine h v' w' ?_ h3 h4
 unfold dH
 simpa using h2
theorem nT(w:World)(x:Int):aN (w.alloc (.cells #[.int .u64 x] 24)) (.slice (some ⟨w.heap.size,0,none⟩) 1 1) [x]:=
 ⟨some ⟨w.heap.size,0,none⟩,w.heap.size,0,1,rfl,⟨λ_=>rfl,λe=>by cases e⟩,Nat.le_refl _,by simp,by simp,jH λi hi=>by
  have:i=0:=by simp at hi;exact hi
  subst this;simp⟩
theorem rZ(w:World)(x:Int):IntsIn (w.alloc (.cells #[.int .i64 x] 3)) (.slice (some ⟨w.heap.size,0,none⟩) 1 1) [x]:=
 ⟨some ⟨w.heap.size,0,none⟩,w.heap.size,0,1,rfl,⟨λ_=>rfl,λe=>by cases e⟩,Nat.le_refl _,by simp,by simp,G6 λi hi=>by
  have:i=0:=by simp at hi;exact hi
  subst this;simp⟩
theorem aeW(w:World)(x:Int):aT (w.alloc (.cells #[.int .u64 x] 24)) w.heap.size (.slice (some ⟨w.heap.size,0,none⟩) 1 1) [x]:=by
 refine⟨by simp,.inr ⟨w.heap.size,1,#[.int .u64 x],rfl,Nat.le_refl _,by show(w.heap.push _)[w.heap.size]? =_;simp,Nat.le_refl _,by unfold maxLen;omega,rfl,rfl⟩⟩
def aC(c n:Int):Int:=(if c<0 then-(c+1)else c)%n
theorem dw(c:Int){n:Int}(h:0<n):0<=aC c n/\aC c n<n:=⟨Int.emod_nonneg _ (by omega),Int.emod_lt_of_pos _ h⟩
theorem pick_any(c n:Int)(w:World)(hn:1<=n)(hn2:n<1000000)(h1: -9223372036854775808<=c)(h2:c<9223372036854775808):
  Calls Tryz.prog 69 #[.int .i64 c,.int .i64 n] w λe w'=>e=.returned (.int .i64 (aC c n))/\w=w':=by
 by_cases h:c<0
 ·have HP:Hid (aC c n= -(c+1)%n):=by unfold aC;rw[if_pos h];rfl
  go_enter Tryz.func69,Tryz.ntmps69
  go_wp2
  go_ret
  exact zi (by rw[HP.out,<-Int.neg_tmod,Int.tmod_eq_emod_of_nonneg (by omega)]) rfl
 ·have HP:Hid (aC c n=c%n):=by unfold aC;rw[if_neg h];rfl
  go_enter Tryz.func69,Tryz.ntmps69
  go_wp2
  go_ret
  exact zi (by rw[HP.out];try rw[Int.tmod_eq_emod_of_nonneg (by omega)]) rfl
def PN(sz pt:Int)(sl:Value)(g:Bool):Value:=.agg #[.int .i64 sz,.int .i64 pt,sl,.bool g]
theorem xq(sz pt:Int)(sl:Value)(g:Bool)(w:World)(hsl:sl.oneCell'=true)(h1: -9223372036854775808<=sz/\sz<9223372036854775808)(h2: -9223372036854775808<=pt/\pt<9223372036854775808):
  Calls Tryz.prog 39 #[PN sz pt sl g] w λe w'=>e=.returned (.agg #[.int .i64 (aC sz 7),.int .i64 (aC pt (aC sz 7+1))])/\Below w.heap.size w w':=by
 unfold PN
 obtain⟨hS1,hS2⟩:=dw sz (n:=7) (by omega)
 go_enter Tryz.func39,Tryz.ntmps39
 go_wp2_with fail
 refine(pick_any _ _ _ (by omega) (by omega) h1.1 h1.2).mono ?_;rintro e ww ⟨rfl,rfl⟩
 go_wp2_with fail
 refine(pick_any _ _ _ (by omega) (by omega) h2.1 h2.2).mono ?_;rintro e ww ⟨rfl,rfl⟩
 go_wp2_with fail
 refine bodyPost_ret (v:=.agg #[.int .i64 (aC sz 7),.int .i64 (aC pt (aC sz 7+1))]) (by simp only[results,Tryz.results39];go_simp) rfl ⟨rfl,?_⟩
 exact bm
end Go.Proofs.YtpgjploaliefdaaGreat.ob
namespace Go.Proofs.YtpgjploaliefdaaGreat.ob
open Go.RowKit hd
set_option linter.unusedVariables false
set_option linter.unusedSimpArgs false
def jI(ys:List Int)(p:Nat):Prop:=∀i,i<p->oO (ys.getD i 0)=true
theorem YJ{ys:List Int}{k:Nat}(h:jI ys k):oO (ys.getD k 0)=true->jI ys (k+1):=λg i hi=>by
 by_cases e:i<k
 ·exact h i e
 ·obtain rfl:i=k:=by omega
  exact g
theorem ZA{ys:List Int}{k n:Nat}(h:k<n):oO (ys.getD k 0)=false->¬jI ys n:=λg q=>by
 have:=q k h;rw[g]at this;cases this
def Dv(s p:Int)(ys:List Int):Prop:=bJ s p=true/\(ys.length:Int)=s
def Oj(B:Nat)(s p:Int)(ys:List Int)(e:Ending)(W:World):Prop:=
 (¬Dv s p ys/\e=.returned (.tuple #[.slice none 0 0,.int .i64 1]))\/
 (Dv s p ys/\¬jI ys p.toNat/\e=.returned (.tuple #[.slice none 0 0,.int .i64 3]))\/
 (Dv s p ys/\jI ys p.toNat/\∃v,e=.returned (.tuple #[v,.int .i64 0])/\aT W B v (bV s p::ys))
theorem I7{s p:Int}(h:bJ s p=true):uN s p=0:=by simp[uN,h]
theorem aco{s p:Int}(h:bJ s p=false):uN s p=1:=by simp[uN,h]
def Dw(W:World)(sl:Value)(zs:List Int):Prop:=∃(ad:Option Addr)(n cap:Nat),sl=.slice ad n cap/\n<9223372036854775808/\(∀i,i<n->∃x,ad=some x/\(x.add i).block<W.heap.size/\W.cell? (x.add i)=some (.int .u64 (zs.getD i 0)))/\Small zs
theorem Dw.tr{W w:World}{sl:Value}{zs:List Int}(h:Dw W sl zs)(hb:Below W.heap.size W w):Dw w sl zs:=by
 obtain⟨ad,n,cap,e,h1,h2,h3⟩:=h
 refine⟨ad,n,cap,e,h1,λi hi=> ?_,h3⟩
 obtain⟨x,e1,e2,e3⟩:=h2 i hi
 exact⟨x,e1,Nat.lt_of_lt_of_le e2 hb.size,ah hb e3⟩
theorem ZB{w:Int}(h1:0<=w)(h2:w<18446744073709551616):oO (bits .or .u64 w 3)=true/\0<=bits .or .u64 w 3/\bits .or .u64 w 3<18446744073709551616:=by
 obtain⟨A,rfl⟩:=Int.eq_ofNat_of_zero_le h1
 have hA:A<2^64:=by omega
 have e:bits .or .u64 (A:Int) 3=((A|||3:Nat):Int):=u64_or_nat A 3 (by omega) (by omega)
 have hx:A|||3<2^64:=Nat.or_lt_two_pow hA (by omega)
 have h3:3<=A|||3:=Nat.right_le_or
 have h4:(A|||3)%2=1:=by
  have:=Nat.or_mod_two_pow (a:=A) (b:=3) (n:=1)
  simp only[Nat.pow_one]at this
  rw[this]
  rcases Nat.mod_two_eq_zero_or_one A with h|h<;>rw[h]<;>rfl
 rw[e]
 refine⟨?_,by omega,by omega⟩
 unfold oO
 rw[decide_eq_true_eq]
 omega
structure G7(S p:Nat)(ys:List Int):Prop where
 len:ys.length=S
 ptrs:jI ys p
 small:Small ys
theorem pY{ys:List Int}{x:Int}(h:Small ys)(h1:0<=x)(h2:x<18446744073709551616):Small (ys++[x]):=by
 intro i
 by_cases e:i<ys.length
 ·have:=h i
  simp only[List.getD,List.getElem?_append_left e]at this⊢
  exact this
 ·by_cases e2:i=ys.length
  ·subst e2;simp[List.getD];omega
  ·simp[List.getD,List.getElem?_append_right (Nat.le_of_not_lt e),List.getElem?_eq_none (show [x].length<=i-ys.length by simp;omega)]
theorem PO:Small []:=λi=>by simp
theorem su{ys:List Int}{x:Int}{k p:Nat}(hk:ys.length=k)(h:jI ys (min k p))(hx:k<p->oO x=true):jI (ys++[x]) (min (k+1) p):=by
 intro i hi
 by_cases e:i<ys.length
 ·have:=h i (by omega)
  simp only[List.getD,List.getElem?_append_left e]at this⊢
  exact this
 ·have e2:i=ys.length:=by omega
  subst e2
  simp[List.getD]
  exact hx (by omega)
set_option maxHeartbeats 1000000 in
theorem PV(sz pt:Int)(sl:Value)(g:Bool)(zs:List Int)(w:World)(hs:Dw w sl zs)(h1: -9223372036854775808<=sz/\sz<9223372036854775808)(h2: -9223372036854775808<=pt/\pt<9223372036854775808):
  Calls Tryz.prog 41 #[PN sz pt sl g] w λe w'=>(∃v ys,e=.returned v/\aT w' w.heap.size v ys/\G7 (aC sz 7).toNat (aC pt (aC sz 7+1)).toNat ys)/\Below w.heap.size w w':=by
 have hone:sl.oneCell'=true:=by obtain⟨_,_,_,rfl,_⟩:=hs;rfl
 obtain⟨ad,n,cap,rfl,hn,hc,hz⟩:=hs
 have HC:=Lib.hid hc
 have HZ:=Lib.hid hz
 clear hc hz
 obtain⟨hS1,hS2⟩:=dw sz (n:=7) (by omega)
 obtain⟨hP1,hP2⟩:=dw pt (n:=aC sz 7+1) (by omega)
 go_enter Tryz.func41,Tryz.ntmps41
 unfold PN
 go_wp2_with fail
 refine(xq sz pt _ g _ hone h1 h2).mono ?_;rintro e w1 ⟨rfl,k1⟩
 generalize hSS:aC sz 7=sI at*
 generalize TS:aC pt (sI+1)=pI at*
 obtain⟨S,rfl⟩:=Int.eq_ofNat_of_zero_le hS1
 obtain⟨p,rfl⟩:=Int.eq_ofNat_of_zero_le hP1
 have KY:Hid (aC sz 7=(S:Int)/\aC pt ((S:Int)+1)=(p:Int)):=⟨hSS,TS⟩
 clear hSS TS
 have Kx:aj w1 w.heap.size #[.int .i64 sz,.int .i64 pt,.slice ad n cap,.bool g] 83:=aj.tr (by exact bk) k1
 have HB1:Below w.heap.size w w1:=by exact bm
 clear k1
 have Ks:=aj.new w1 #[.int .i64 S,.int .i64 p] 56
 replace Kx:=Kx.alloc (.cells #[.int .i64 S,.int .i64 p] 56)
 have HB2:Below w.heap.size w (w1.alloc (.cells #[.int .i64 S,.int .i64 p] 56)):=by exact bm
 have hs1:=HB1.size
 go_wp2_with fail
 generalize hW2:w1.alloc (.cells #[.int .i64 S,.int .i64 p] 56)=w2 at*
 clear hW2 HB1
 go_loopw [5,4] (λi v wr=>∃(k:Nat)(ys:List Int),k<=S/\i=.int .i64 k/\ys.length=k/\Hid (jI ys (min k p))/\Hid (Small ys)/\aT wr w2.heap.size v ys/\Below w2.heap.size w2 wr) (λi _ _=>S-(intOf i).toNat)
 case atStart=>exact⟨0,[],Nat.zero_le _,rfl,rfl,λi hi=>by omega,PO,aT.nil _ _,Below.refl _ _⟩
 case round=>
  obtain⟨k,ys,hk,rfl,hyl,hpo,hsm,hown,hbr⟩:=hrel
  replace Kx:=Kx.tr hbr
  replace Ks:=Ks.tr hbr
  obtain⟨lx,cx,fx⟩:=Kx.get
  obtain⟨ls,cs,fs⟩:=Ks.get
  have cs0:=cs 0
  have cs1:=cs 1
  have HO:=Lib.hid hown
  have yZ:=Lib.hid hbr
  have hws:=hbr.size
  clear hown hbr
  by_cases hlk:k<S
  ·by_cases hkn:k<n
   ·have afP:(k:Int)<(n:Int):=by omega
    obtain⟨x0,rfl,hxl,hxc⟩:=HC.out k hkn
    have hxk:=ah (HB2.trans (yZ.out.mono HB2.size)) hxc
    have rU:=HZ.out k
    clear hxc
    generalize zs.getD k 0=x at*
    by_cases hkp:k<p
    ·have ZC:(k:Int)<(p:Int):=by omega
     go_wp2_with fail
     refine(tK x _ rU.1 rU.2).mono ?_;rintro e ww ⟨rfl,rfl⟩
     rcases hpb:oO x with _|_
     ·have h3:=ZB rU.1 rU.2
      go_wp2_with (at_builtin;refine kZ _ rfl _ _ rfl w2.heap.size _ (.slice (some ⟨wr.heap.size,0,none⟩) 1 1) ys [(bits .or .u64 x 3)] rfl rfl (HO.out.tr ((Below.refl _ _).alloc (Nat.le_refl _) _)) (nT _ _) ?c0 ?c1 ?c2)
      case c0=>first|omega|(simp;omega)
      case c1=>exact Nat.le_trans hws (by simp)
      case c2=>
      intro v' w3 ho hg hat
      have hol:=World.ownsRow.lt HO.out
      go_wp2_with fail
      refine⟨⟨k+1,ys++[(bits .or .u64 x 3)],by omega,by go_num,by simp;omega,su hyl hpo.out (λh=>h3.1),pY hsm.out h3.2.1 h3.2.2,ho,?_⟩,by simp[intOf];omega⟩
      have hB3:=yZ.out
      exact⟨hg.os.trans hB3.os,hg.tape.trans hB3.tape,hg.output.trans hB3.output,Nat.le_trans hB3.size (Nat.le_trans (by simp) hg.size),λj hj=>(hg.block j (by simp;omega) (λe=>by have:=hol j e.symm;omega)).trans ((Below.heap_alloc _ _ _ (by omega)).trans (hB3.block j hj))⟩
     ·go_wp2_with (at_builtin;refine kZ _ rfl _ _ rfl w2.heap.size _ (.slice (some ⟨wr.heap.size,0,none⟩) 1 1) ys [x] rfl rfl (HO.out.tr ((Below.refl _ _).alloc (Nat.le_refl _) _)) (nT _ _) ?c0 ?c1 ?c2)
      case c0=>first|omega|(simp;omega)
      case c1=>exact Nat.le_trans hws (by simp)
      case c2=>
      intro v' w3 ho hg hat
      have hol:=World.ownsRow.lt HO.out
      go_wp2_with fail
      refine⟨⟨k+1,ys++[x],by omega,by go_num,by simp;omega,su hyl hpo.out (λh=>hpb),pY hsm.out rU.1 rU.2,ho,?_⟩,by simp[intOf];omega⟩
      have hB3:=yZ.out
      exact⟨hg.os.trans hB3.os,hg.tape.trans hB3.tape,hg.output.trans hB3.output,Nat.le_trans hB3.size (Nat.le_trans (by simp) hg.size),λj hj=>(hg.block j (by simp;omega) (λe=>by have:=hol j e.symm;omega)).trans ((Below.heap_alloc _ _ _ (by omega)).trans (hB3.block j hj))⟩
    ·have ZC:¬(k:Int)<(p:Int):=by omega
     go_wp2_with (at_builtin;refine kZ _ rfl _ _ rfl w2.heap.size _ (.slice (some ⟨wr.heap.size,0,none⟩) 1 1) ys [x] rfl rfl (HO.out.tr ((Below.refl _ _).alloc (Nat.le_refl _) _)) (nT _ _) ?c0 ?c1 ?c2)
     case c0=>first|omega|(simp;omega)
     case c1=>exact Nat.le_trans hws (by simp)
     case c2=>
     intro v' w3 ho hg hat
     have hol:=World.ownsRow.lt HO.out
     go_wp2_with fail
     refine⟨⟨k+1,ys++[x],by omega,by go_num,by simp;omega,su hyl hpo.out (λh=>absurd h hkp),pY hsm.out rU.1 rU.2,ho,?_⟩,by simp[intOf];omega⟩
     have hB3:=yZ.out
     exact⟨hg.os.trans hB3.os,hg.tape.trans hB3.tape,hg.output.trans hB3.output,Nat.le_trans hB3.size (Nat.le_trans (by simp) hg.size),λj hj=>(hg.block j (by simp;omega) (λe=>by have:=hol j e.symm;omega)).trans ((Below.heap_alloc _ _ _ (by omega)).trans (hB3.block j hj))⟩
   ·have afP:¬(k:Int)<(n:Int):=by omega
    have hp0:oO 0=true:=by decide
    by_cases hkp:k<p
    ·have ZC:(k:Int)<(p:Int):=by omega
     go_wp2_with fail
     refine(tK 0 _ (by omega) (by omega)).mono ?_;rintro e ww ⟨rfl,rfl⟩
     rw[hp0]
     go_wp2_with (at_builtin;refine kZ _ rfl _ _ rfl w2.heap.size _ (.slice (some ⟨wr.heap.size,0,none⟩) 1 1) ys [0] rfl rfl (HO.out.tr ((Below.refl _ _).alloc (Nat.le_refl _) _)) (nT _ _) ?c0 ?c1 ?c2)
     case c0=>first|omega|(simp;omega)
     case c1=>exact Nat.le_trans hws (by simp)
     case c2=>
     intro v' w3 ho hg hat
     have hol:=World.ownsRow.lt HO.out
     go_wp2_with fail
     refine⟨⟨k+1,ys++[0],by omega,by go_num,by simp;omega,su hyl hpo.out (λh=>(by decide)),pY hsm.out (by omega) (by omega),ho,?_⟩,by simp[intOf];omega⟩
     have hB3:=yZ.out
     exact⟨hg.os.trans hB3.os,hg.tape.trans hB3.tape,hg.output.trans hB3.output,Nat.le_trans hB3.size (Nat.le_trans (by simp) hg.size),λj hj=>(hg.block j (by simp;omega) (λe=>by have:=hol j e.symm;omega)).trans ((Below.heap_alloc _ _ _ (by omega)).trans (hB3.block j hj))⟩
    ·have ZC:¬(k:Int)<(p:Int):=by omega
     go_wp2_with (at_builtin;refine kZ _ rfl _ _ rfl w2.heap.size _ (.slice (some ⟨wr.heap.size,0,none⟩) 1 1) ys [0] rfl rfl (HO.out.tr ((Below.refl _ _).alloc (Nat.le_refl _) _)) (nT _ _) ?c0 ?c1 ?c2)
     case c0=>first|omega|(simp;omega)
     case c1=>exact Nat.le_trans hws (by simp)
     case c2=>
     intro v' w3 ho hg hat
     have hol:=World.ownsRow.lt HO.out
     go_wp2_with fail
     refine⟨⟨k+1,ys++[0],by omega,by go_num,by simp;omega,su hyl hpo.out (λh=>(by decide)),pY hsm.out (by omega) (by omega),ho,?_⟩,by simp[intOf];omega⟩
     have hB3:=yZ.out
     exact⟨hg.os.trans hB3.os,hg.tape.trans hB3.tape,hg.output.trans hB3.output,Nat.le_trans hB3.size (Nat.le_trans (by simp) hg.size),λj hj=>(hg.block j (by simp;omega) (λe=>by have:=hol j e.symm;omega)).trans ((Below.heap_alloc _ _ _ (by omega)).trans (hB3.block j hj))⟩
  ·obtain rfl:k=S:=by omega
   go_wp2_with fail
   go_ret
   refine⟨⟨_,ys,rfl,HO.out.lift HB2.size,⟨by have:=KY.out.1;omega,?_,hsm.out⟩⟩,HB2.trans (yZ.out.mono HB2.size)⟩
   have h5:=hpo.out
   rw[Nat.min_eq_right (by omega)]at h5
   rw[KY.out.1,KY.out.2]
   exact h5
end Go.Proofs.YtpgjploaliefdaaGreat.ob
namespace Go.Proofs.YtpgjploaliefdaaGreat.ob
open Go.RowKit hd
set_option linter.unusedVariables false
set_option linter.unusedSimpArgs false
def kd(p:Int)(j:Nat):Int:=if(j:Int)<p then 2 else 3
def nU(o:Ob):List Int:=1::(List.range o.s.toNat).map (kd o.p)
def nK(len:Nat)(acc:List Int)(o:Ob):Prop:=o.pos≠acc.length\/(len:Int)<=o.pos\/bJ o.s o.p=false\/(len:Int)-o.pos-1<o.s
instance(len:Nat)(acc:List Int)(o:Ob):Decidable (nK len acc o):=by unfold nK;infer_instance
def dY(len:Nat):List Ob->List Int->Option (List Int)
 |[],acc=>if acc.length=len then some acc else none
 |o::l,acc=>if nK len acc o then none else dY len l (acc++nU o)
def xu(B:Nat)(r:Option (List Int))(e:Ending)(W:World):Prop:=
 match r with
 |none=>e=.returned (.tuple #[.slice none 0 0,.int .i64 1])
 |some ks=>∃v,e=.returned (.tuple #[v,.int .i64 0])/\dH W B v ks
theorem tN{os:List Ob}{k:Nat}(h:k<os.length):os.drop k=dL os k::os.drop (k+1):=by
 rw[List.drop_eq_getElem_cons h];simp[dL,List.getD,h]
theorem pG{w W W':World}{v:Value}{zs:List Int}(hb:Below w.heap.size w W)(ho:dH W w.heap.size v zs)(hg:W.grownBy W' v.ownBlock):Below w.heap.size w W':=by
 have hol:=World.ownsRow.lt ho
 exact⟨hg.os.trans hb.os,hg.tape.trans hb.tape,hg.output.trans hb.output,Nat.le_trans hb.size hg.size,λj hj=>(hg.block j (Nat.lt_of_lt_of_le hj hb.size) (λe=>by have:=hol j e.symm;omega)).trans (hb.block j hj)⟩
theorem iV{W w:World}{n:Nat}{cs:Array Value}{T:TypeId}{r:Option Nat}(h:aj W n cs T)(hg:W.grownBy w r)(hn:r≠some n):aj w n cs T:=aj.of ((hg.block n h.lt (λe=>hn e.symm)).trans h.raw)
theorem abC{p:Int}{acc:List Int}{j:Nat}:(acc++1::(List.range j).map (kd p)).length=acc.length+1+j:=by simp;omega
theorem tX{p:Int}{acc:List Int}{j:Nat}{x:Int}(h:kd p j=x):acc++1::((List.range j).map (kd p)++[x])=acc++1::(List.range (j+1)).map (kd p):=by
 rw[List.range_succ,List.map_append];simp[h]
theorem dH.form{W:World}{B:Nat}{v:Value}{zs:List Int}(h:dH W B v zs):∃va vc,v=.slice va zs.length vc:=by
 rcases h.2 with⟨rfl,h1⟩|⟨g,cap,cur,rfl,_⟩
 ·rw[h1];exact⟨_,_,rfl⟩
 ·exact⟨_,_,rfl⟩
theorem dH.Ol{W:World}{B:Nat}{v:Value}{zs:List Int}(h:dH W B v zs):∃va l vc,v=.slice va l vc:=by
 obtain⟨a,c,h⟩:=h.form
 exact⟨a,_,c,h⟩
set_option maxRecDepth 100000 in
set_option maxHeartbeats 4000000 in
theorem PW(ad:Option Addr)(len cap:Nat)(v0:Value)(os:List Ob)(w:World)(hlen:len<1000000000000)(ho:bT w v0 os):
  Calls Tryz.prog 43 #[.slice ad len cap,v0] w λe w'=>xu w.heap.size (dY len os []) e w'/\Below w.heap.size w w':=by
 obtain⟨ad',b,off,cap',rfl,⟨a1,a2⟩,a3,a4,a5,a6⟩:=ho
 have HA:=Lib.hid a1
 have HC:=Lib.hid a6
 clear a1 a2 a6
 generalize hn:os.length=n at*
 have HN:=Lib.hid hn
 clear hn
 go_enter Tryz.func43,Tryz.ntmps43
 go_wp2_with fail
 go_loopw [12,6] (λi v wr=>∃(k:Nat)(acc:List Int),k<=n/\i=.int .i64 k/\acc.length<=len/\Hid (dY len os []=dY len (os.drop k) acc)/\dH wr w.heap.size v acc/\Below w.heap.size w wr) (λi _ _=>n-(intOf i).toNat)
 case atStart=>exact⟨0,[],Nat.zero_le _,rfl,Nat.zero_le _,rfl,dH.nil _ _,Below.refl _ _⟩
 case round=>
  obtain⟨k,acc,hk,rfl,hal,hres,hown,hbr⟩:=hrel
  obtain⟨va,vc,rfl⟩:=hown.form
  have HO:=Lib.hid hown
  have yZ:=Lib.hid hbr
  have hws:=hbr.size
  by_cases hlk:k<n
  ·obtain rfl:=HA.out (by omega)
   have hxk:=(HC.out.block (hbr.block b a5)).at k hlk
   have HS:=Lib.hid (hres.out.trans (by rw[tN (by have:=HN.out;omega)];rfl:dY len (os.drop k) acc=if nK len acc (dL os k)then none else dY len (os.drop (k+1)) (acc++nU (dL os k))))
   clear hown hbr hres
   generalize dL os k=o at*
   obtain⟨p0,s,p,g,t⟩:=o
   obtain⟨x0,x1,x2,x3,x4⟩:=hxk
   dsimp only at x0 x1 x2 x3 x4
   generalize hm:acc.length=m at*
   have HM:=Lib.hid hm
   by_cases h1:p0=m
   ·subst h1
    have hb1:((m:Int)==(m:Int))=true:=by simp
    by_cases h2:len<=m
    ·have h2i:(len:Int)<=(m:Int):=by omega
     have HR:Hid (dY len os []=none):=HS.out.trans (if_pos (.inr (.inl h2i)))
     go_wp2_with fail
     go_ret2
     refine⟨by rw[HR.out];rfl,?_⟩
     have:=yZ.out
     exact bm
    ·have h2i:(m:Int)<(len:Int):=by omega
     rcases h3:bJ s p with _|_
     ·have HR:Hid (dY len os []=none):=HS.out.trans (if_pos (.inr (.inr (.inl h3))))
      go_wp2_with fail
      refine(kY s p _).mono ?_;rintro e w1 ⟨rfl,k1⟩
      rw[h3]
      go_wp2_with fail
      go_ret2
      refine⟨by rw[HR.out];rfl,?_⟩
      have:=yZ.out
      exact bm
     ·obtain⟨r1,r2,r3,r4⟩:=kJ h3
      obtain⟨S,rfl⟩:=Int.eq_ofNat_of_zero_le r1
      obtain⟨P,rfl⟩:=Int.eq_ofNat_of_zero_le r3
      have Ko0:aj (wr.alloc (.cells #[.int .i64 m,.int .i64 S,.int .i64 P,.bool g,.int .u64 t] 58)) wr.heap.size #[.int .i64 m,.int .i64 S,.int .i64 P,.bool g,.int .u64 t] 58:=aj.new _ _ _
      by_cases h4:(len:Int)-m-1<S
      ·have HR:Hid (dY len os []=none):=HS.out.trans (if_pos (.inr (.inr (.inr h4))))
       go_wp2_with fail
       refine(kY S P _).mono ?_;rintro e w1 ⟨rfl,k1⟩
       rw[h3]
       have Ko:=Ko0.tr k1
       clear Ko0
       obtain⟨lo,co,fo⟩:=Ko.get
       go_wp2_with fail
       go_ret2
       refine⟨by rw[HR.out];rfl,?_⟩
       have:=yZ.out
       exact bm
      ·have HR:Hid (dY len os []=dY len (os.drop (k+1)) (acc++nU ⟨m,S,P,g,t⟩)):=HS.out.trans (if_neg (by rintro(q|q|q|q)<;>dsimp only at q<;>first|omega|(rw[h3]at q;cases q)))
       have hr:¬(len:Int)-m-1<S:=h4
       go_wp2_with fail
       refine(kY S P _).mono ?_;rintro e w1 ⟨rfl,k1⟩
       rw[h3]
       have Ko:=Ko0.tr k1
       clear Ko0
       have HB1:Below w.heap.size w w1:=by have:=yZ.out;exact bm
       have EU:Hid (dH w1 w.heap.size (.slice va m vc) acc):=(HO.out.tr ((Below.refl _ _).alloc (Nat.le_refl _) (.cells #[.int .i64 m,.int .i64 S,.int .i64 P,.bool g,.int .u64 t] 58))).tr k1
       have hob:(Value.slice va m vc).ownBlock≠some wr.heap.size:=λe=>by have:=World.ownsRow.lt HO.out _ e;omega
       obtain⟨lo,co,fo⟩:=Ko.get
       have PX:=Lib.hid HB1
       have hs1:=HB1.size
       have Om:=Lib.hid hob
       have HKo:=Lib.hid Ko
       clear HB1 hob Ko k1 HO yZ
       go_wp2_with (at_builtin;refine lu _ rfl _ _ rfl w.heap.size (.slice va m vc) (.slice (some ⟨w1.heap.size,0,none⟩) 1 1) acc [1] rfl rfl (EU.out.tr ((Below.refl _ _).alloc (Nat.le_refl _) _)) (rZ _ _) ?c0 ?c1 ?c2)
       case c0=>have:=HM.out;first|omega|(simp;omega)
       case c1=>first|omega|(simp;omega)
       case c2=>
       intro v2 w2 ho2 hg2 I8
       have hne2:Hid (v2.ownBlock≠some wr.heap.size):=λe=>by
        rcases I8 with h|h
        ·rw[h]at e;exact Om.out e
        ·rw[h]at e;simp at e;omega
       have acp:=Lib.hid (iV (HKo.out.alloc (.cells #[.int .i64 1] 3)) hg2 Om.out)
       have HB2:Hid (Below w.heap.size w w2):=pG (PX.out.alloc hs1 _) (EU.out.tr ((Below.refl _ _).alloc (Nat.le_refl _) _)) hg2
       have ZE:=Lib.hid ho2
       have LD:Hid (acc.length=m):=HM.out
       clear ho2 hg2 I8 Om HKo EU PX lo co fo
       generalize hoB:wr.heap.size=oB at*
       clear hoB
       obtain⟨lo,co,fo⟩:=acp.out.get
       go_wp2_with fail
       go_loopw [52,6] (λi v wr2=>∃j:Nat,j<=S/\i=.int .i64 j/\Hid (dH wr2 w.heap.size v (acc++1::(List.range j).map (kd P)))/\Hid (aj wr2 oB #[.int .i64 m,.int .i64 S,.int .i64 P,.bool g,.int .u64 t] 58)/\Hid (v.ownBlock≠some oB)/\Hid (Below w.heap.size w wr2)) (λi _ _=>S-(intOf i).toNat)
       case atStart=>exact⟨0,Nat.zero_le _,rfl,ZE.out,acp.out,hne2.out,HB2.out⟩
       case round=>
        obtain⟨j,hj,rfl,ho3,hk3,PZ,hb3⟩:=hrel
        clear lo co fo
        obtain⟨lo,co,fo⟩:=hk3.out.get
        have hs3:=hb3.out.size
        by_cases hjS:j<S
        ·by_cases hjP:j<P
         ·have ZF:(j:Int)<(P:Int):=by omega
          have hkd:Hid (kd P j=2):=if_pos ZF
          obtain⟨Dx,l3,Dy,hv3⟩:=ho3.out.Ol
          subst hv3
          go_wp2_with (at_builtin;refine lu _ rfl _ _ rfl w.heap.size (.slice Dx l3 Dy) (.slice (some ⟨wr.heap.size,0,none⟩) 1 1) (acc++1::(List.range j).map (kd P)) [2] rfl rfl (ho3.out.tr ((Below.refl _ _).alloc (Nat.le_refl _) _)) (rZ _ _) ?c0 ?c1 ?c2)
          case c0=>have:=LD.out;first|omega|(simp;omega)
          case c1=>first|omega|(simp;omega)
          case c2=>
          intro v4 w4 tY hg4 iG
          have ZG:Hid (v4.ownBlock≠some oB):=λe=>by
           rcases iG with h|h
           ·rw[h]at e;exact PZ.out e
           ·rw[h]at e;simp at e;omega
          have HK4:=Lib.hid (iV (hk3.out.alloc (.cells #[.int .i64 2] 3)) hg4 PZ.out)
          have HB4:Hid (Below w.heap.size w w4):=pG (hb3.out.alloc hs3 _) (ho3.out.tr ((Below.refl _ _).alloc (Nat.le_refl _) _)) hg4
          rw[tX hkd.out]at tY
          have Xe:=Lib.hid tY
          clear tY hg4 iG lo co fo
          go_wp2_with fail
          exact⟨⟨j+1,by omega,by go_num,Xe.out,HK4.out,ZG.out,HB4.out⟩,by simp[intOf];omega⟩
         ·have ZF:¬(j:Int)<(P:Int):=by omega
          have hkd:Hid (kd P j=3):=if_neg ZF
          obtain⟨Dx,l3,Dy,hv3⟩:=ho3.out.Ol
          subst hv3
          go_wp2_with (at_builtin;refine lu _ rfl _ _ rfl w.heap.size (.slice Dx l3 Dy) (.slice (some ⟨wr.heap.size,0,none⟩) 1 1) (acc++1::(List.range j).map (kd P)) [3] rfl rfl (ho3.out.tr ((Below.refl _ _).alloc (Nat.le_refl _) _)) (rZ _ _) ?c0 ?c1 ?c2)
          case c0=>have:=LD.out;first|omega|(simp;omega)
          case c1=>first|omega|(simp;omega)
          case c2=>
          intro v4 w4 tY hg4 iG
          have ZG:Hid (v4.ownBlock≠some oB):=λe=>by
           rcases iG with h|h
           ·rw[h]at e;exact PZ.out e
           ·rw[h]at e;simp at e;omega
          have HK4:=Lib.hid (iV (hk3.out.alloc (.cells #[.int .i64 3] 3)) hg4 PZ.out)
          have HB4:Hid (Below w.heap.size w w4):=pG (hb3.out.alloc hs3 _) (ho3.out.tr ((Below.refl _ _).alloc (Nat.le_refl _) _)) hg4
          rw[tX hkd.out]at tY
          have Xe:=Lib.hid tY
          clear tY hg4 iG lo co fo
          go_wp2_with fail
          exact⟨⟨j+1,by omega,by go_num,Xe.out,HK4.out,ZG.out,HB4.out⟩,by simp[intOf];omega⟩
        ·obtain rfl:j=S:=by omega
         go_wp2_with fail
         trace_state
         refine⟨⟨k+1,acc++nU ⟨m,j,P,g,t⟩,by omega,by go_num,?_,HR.out,ho3.out,hb3.out⟩,by simp[intOf];omega⟩
         have:=LD.out
         simp[nU];omega
   ·have h1b:(p0==(m:Int))=false:=beq_eq_false_iff_ne.mpr h1
    have HR:Hid (dY len os []=none):=HS.out.trans (if_pos (.inl (by show p0≠_;rw[hm];exact h1)))
    go_wp2_with fail
    go_ret2
    refine⟨by rw[HR.out];rfl,?_⟩
    have:=yZ.out
    exact bm
  ·obtain rfl:k=n:=by omega
   have HR:Hid (dY len os []=if acc.length=len then some acc else none):=hres.out.trans (by rw[List.drop_of_length_le (by have:=HN.out;omega)];rfl)
   clear hown hbr hres
   generalize hm:acc.length=m at*
   clear hm
   by_cases hml:m=len
   ·subst hml
    have hb1:((m:Int)==(m:Int))=true:=by simp
    go_wp2_with fail
    go_ret2
    exact⟨by rw[HR.out];first|rw[if_pos rfl]|rw[if_pos trivial];exact⟨_,rfl,HO.out⟩,yZ.out⟩
   ·have hb1:((m:Int)==(len:Int))=false:=beq_eq_false_iff_ne.mpr (by omega)
    go_wp2_with fail
    go_ret2
    exact⟨by rw[HR.out,if_neg hml];rfl,yZ.out⟩
end Go.Proofs.YtpgjploaliefdaaGreat.ob
namespace Go.Proofs.YtpgjploaliefdaaGreat.ob
open Go.RowKit hd
set_option linter.unusedVariables false
set_option linter.unusedSimpArgs false
theorem sD{ys:List Int}(h:∀x∈ys,0<=x/\x<18446744073709551616):Small ys:=λi=>by
 by_cases e:i<ys.length
 ·have:=h ys[i] (List.getElem_mem e)
  simpa [List.getD,e]using this
 ·simp[List.getD,List.getElem?_eq_none (Nat.le_of_not_lt e)]
theorem walk_in(v:Value)(zs:List Int)(w:World)(h:aN w v zs)(hz:Small zs):
  Calls Tryz.prog 107 #[v] w λe W'=>jk (w.heap.size+6) (aV oL zs zs.length (zs.length+1) 0 0 []) e W'/\Below w.heap.size w W':=by
 obtain⟨ad,b,off,cap,rfl,⟨a1,a2⟩,a3,a4,a5,a6⟩:=h
 exact TL b off _ cap ad zs a1 a3 a4 hz w a6
def dV(W:World)(v:Value)(ss:List (Int×Int)):Prop:=∃(ad:Option Addr)(b off cap:Nat),v=.slice ad ss.length cap/\((0<ss.length->ad=some ⟨b,off,none⟩)/\(ad=none->cap=0))/\ss.length<=cap/\(cap<9223372036854775808/\ss.length<1000000000000)/\b<W.heap.size/\cZ W b off ss.length ss
theorem dV.tr{W w:World}{v:Value}{zs:List (Int×Int)}(h:dV W v zs)(hb:Below W.heap.size W w):dV w v zs:=by
 obtain⟨ad,b,off,cap,e,h1,h2,h3,h4,h5⟩:=h
 exact⟨ad,b,off,cap,e,h1,h2,h3,Nat.lt_of_lt_of_le h4 hb.size,h5.block (hb.block b h4)⟩
theorem dV.nil{W:World}(h:0<W.heap.size):dV W (.slice none 0 0) []:=⟨none,0,0,0,rfl,⟨λh=>by simp at h,λ_=>rfl⟩,Nat.le_refl _,by simp,h,cZ.none _ _ _ _⟩
def iq(zs:List Int)(ss:List (Int×Int)):TI:=jv ss.length (aV (jP ss.length ss) zs zs.length (zs.length+1) 0 0 [])
def newF(zs:List Int):TI:=aV oL zs zs.length (zs.length+1) 0 0 []
theorem Dz(v u:Value)(zs:List Int)(ss:List (Int×Int))(w:World)(h:aN w v zs)(hz:Small zs)(hs:dV w u ss):
  Calls Tryz.prog 109 #[v,u] w λe W'=>(∃B,w.heap.size<=B/\jk B (iq zs ss) e W')/\Below w.heap.size w W':=by
 obtain⟨ad,b,off,cap,rfl,⟨a1,a2⟩,a3,a4,a5,a6⟩:=h
 obtain⟨ad',b',off',cap',rfl,⟨a1',a2'⟩,a3',a4',a5',a6'⟩:=hs
 exact IZ b off _ cap ad zs a1 a3 a4 hz b' off' _ cap' ad' ss a1' (by omega) w a6 a6' a5 a5'
theorem zy{W:World}{B:Nat}{v:Value}{l:List Ob}(h:cu W B v l):∃va vc,v=.slice va l.length vc:=by
 rcases h.2 with⟨rfl,h1⟩|⟨g,cap,cur,rfl,_⟩
 ·rw[h1];exact⟨_,_,rfl⟩
 ·exact⟨_,_,rfl⟩
theorem iW{W w:World}{B:Nat}{v:Value}{l:List Ob}(h:cu W B v l)(hb:Below W.heap.size W w):cu w B v l:=by
 refine World.ownsRow.kept h (below_grown hb none) ?_
 rcases hv:v.ownBlock with _|k
 ·exact .inl rfl
 ·exact .inr (λe=>by cases e)
theorem xw(l:List Ob)(i j:Nat)(hi:i<l.length)(hj:j<5):(jX l)[i*5+j]? =(dG (dL l i))[j]? :=by
 induction l generalizing i with
 |nil=>simp at hi
 |cons o l ih=>
  cases i with
  |zero=>
   simp only[jX,Nat.zero_mul,Nat.zero_add]
   rw[List.getElem?_append_left (by simp[dG];omega)]
   rfl
  |succ i=>
   simp only[jX]
   rw[List.getElem?_append_right (by simp[dG];omega)]
   have:(i+1)*5+j-(dG o).length=i*5+j:=by simp[dG];omega
   rw[this,ih i (by simpa using hi)]
   rfl
theorem nV{W:World}{B:Nat}{v:Value}{l:List Ob}(h:cu W B v l)(h0:0<W.heap.size)(hl:l.length<1000000000000):bT W v l:=by
 rcases h.2 with⟨rfl,h1⟩|⟨g,cap,cur,rfl,h1,h2,h3,h4,h5,h6⟩
 ·have hz:l=[]:=List.eq_nil_of_length_eq_zero h1
  subst hz
  exact bT.nil h0
 ·refine⟨some ⟨g,0,none⟩,g,0,cap,rfl,⟨λ_=>rfl,λe=>by cases e⟩,h3,⟨by unfold maxLen at h4;omega,hl⟩,?_,ig.of λi hi=> ?_⟩
  ·rcases Nat.lt_or_ge g W.heap.size with h7|h7
   ·exact h7
   ·rw[Array.getElem?_eq_none h7]at h2;cases h2
  ·have key:∀j u,j<5->(dG (dL l i))[j]? =some u->W.cell? ⟨g,0+i*5+j,none⟩=some u:=by
    intro j u hj hu
    have h7:=World.ownsRow.cells h (g:=g) rfl (i*5+j) u (by rw[xw l i j hi hj];exact hu)
    have e:(⟨g,0,none⟩:Addr).add (i*5+j)=⟨g,0+i*5+j,none⟩:=by unfold Addr.add;split<;>simp_all
    rw[e]at h7
    exact h7
   exact⟨key 0 _ (by omega) rfl,key 1 _ (by omega) rfl,key 2 _ (by omega) rfl,key 3 _ (by omega) rfl,key 4 _ (by omega) rfl⟩
theorem abD(w:World)(xs:List Int)(b:Nat)(h:aj w b (xs.map (λn:Int=>Value.int .u64 n)).toArray 24)(n:Nat)(hn:n<=xs.length)(h0:0<n)(hl:xs.length<1000000):aN w (.slice (some ⟨b,0,none⟩) n xs.length) (xs.take n):=by
 obtain⟨lb,cb,fb⟩:=h.get
 have hlen:(xs.take n).length=n:=by simp;omega
 refine⟨some ⟨b,0,none⟩,b,0,xs.length,by rw[hlen],⟨λ_=>rfl,λe=>by cases e⟩,by omega,by omega,lb,jH λi hi=> ?_⟩
 rw[cb (0+i),hlen]at*
 have hi2:i<xs.length:=by omega
 simp[List.getD,List.getElem?_take,hi2]
 rw[if_pos (by omega)]
 simp
end Go.Proofs.YtpgjploaliefdaaGreat.ob
namespace Go.Proofs.YtpgjploaliefdaaGreat.ob
open Go.RowKit hd
set_option linter.unusedVariables false
set_option linter.unusedSimpArgs false
structure Pc where
 h:Int
 s:Nat
 p:Nat
 g:Bool
 ys:List Int
def wordsOf(l:List Pc):List Int:=l.flatMap λc=>c.h::c.ys
def aJ(l:List Pc):List (Int×Int):=(l.filter λc=>c.g).map λc=>((c.s:Int),(c.p:Int))
theorem G8{s p:Nat}(hs:s<=255)(hp:p<=s):jF (bV s p)=true/\rD (bV s p)=s/\BL (bV s p)=p:=by
 have hr:bJ s p=true:=jS (by omega)
 have he:bV s p=2*s+131072*p:=by simp[bV,hr]
 have h1:(2*(s:Int)+131072*p)/2%65536=s:=by omega
 have h2:(2*(s:Int)+131072*p)/131072=p:=by omega
 have ho:jF (bV s p)=true:=by
  rw[he];unfold jF;rw[h1,h2,hr];simp;omega
 refine⟨ho,?_,?_⟩
 ·unfold rD;rw[if_pos ho,he,h1]
 ·unfold BL;rw[if_pos ho,he,h2]
structure oD(c:Pc):Prop where
 len:c.ys.length=c.s
 s6:c.s<=255
 ps:c.p<=c.s
 small:Small c.ys
 new:c.g=false->c.h=bV c.s c.p/\jI c.ys c.p
 gone:c.g=true->∃t:Int,1<=t/\t<9223372036854775808/\c.h=2*t+1/\c.ys=List.replicate c.s 0
def Good(l:List Pc):Prop:=∀c∈l,oD c
def iY(pos:Nat)(c:Pc):Ob:=⟨pos,c.s,c.p,c.g,if c.g then gB c.h else 0⟩
def bY(pos:Nat):List Pc->List Ob
 |[]=>[]
 |c::l=>iY pos c::bY (pos+1+c.s) l
theorem eG(c:Pc)(l:List Pc):wordsOf (c::l)=c.h::(c.ys++wordsOf l):=by simp[wordsOf]
theorem nX(l m:List Pc):wordsOf (l++m)=wordsOf l++wordsOf m:=by simp[wordsOf]
theorem Xf(l m:List Pc):aJ (l++m)=aJ l++aJ m:=by simp[aJ]
theorem P5(l m:List Pc)(hl:Good l):∀pos,bY pos (l++m)=bY pos l++bY (pos+(wordsOf l).length) m:=by
 induction l with
 |nil=>intro pos;simp[bY,wordsOf]
 |cons c l ih=>
  intro pos
  have hc:=(hl c List.mem_cons_self).len
  simp only[List.cons_append,bY,eG,List.length_cons,List.length_append,hc]
  rw[ih (λd hd=>hl d (List.mem_cons_of_mem _ hd))]
  rw[show pos+1+c.s+(wordsOf l).length=pos+(c.s+(wordsOf l).length+1)from by omega]
theorem P6(l:List Pc):∀pos,(bY pos l).length=l.length:=by
 induction l with
 |nil=>intro pos;rfl
 |cons c l ih=>intro pos;simp[bY,ih]
def rH(zs:List Int)(pos:Nat)(ws:List Int):Prop:=∀j,j<ws.length->zs.getD (pos+j) 0=ws.getD j 0
theorem TU(a b c:List Int):rH (a++b++c) a.length b:=by
 intro j hj
 simp only[List.getD]
 rw[List.getElem?_append_left (by simp;omega),List.getElem?_append_right (by omega)]
 congr 2
 omega
theorem FD{zs:List Int}{pos:Nat}{c:Pc}{l:List Pc}(h:rH zs pos (wordsOf (c::l))):zs.getD pos 0=c.h:=by
 have:=h 0 (by rw[eG];simp)
 rw[eG]at this
 simpa using this
theorem FH{zs:List Int}{pos:Nat}{c:Pc}{l:List Pc}(h:rH zs pos (wordsOf (c::l))){i:Nat}(hi:i<c.ys.length):zs.getD (pos+1+i) 0=c.ys.getD i 0:=by
 have:=h (i+1) (by rw[eG];simp;omega)
 rw[eG]at this
 rw[show pos+1+i=pos+(i+1)from by omega,this]
 simp only[List.getD,List.getElem?_cons_succ]
 rw[List.getElem?_append_left hi]
theorem xA{zs:List Int}{pos:Nat}{c:Pc}{l:List Pc}(hc:c.ys.length=c.s)(h:rH zs pos (wordsOf (c::l))):rH zs (pos+1+c.s) (wordsOf l):=by
 intro j hj
 have:=h (1+c.s+j) (by rw[eG];simp;omega)
 rw[eG]at this
 rw[show pos+1+c.s+j=pos+(1+c.s+j)from by omega,this]
 simp only[List.getD]
 rw[show 1+c.s+j=(c.s+j)+1 from by omega,List.getElem?_cons_succ,List.getElem?_append_right (by omega)]
 congr 2
 omega
theorem Oo{c:Pc}(hc:oD c)(hg:c.g=false)(k pos:Nat):oL k pos c.h=some (iY pos c,k):=by
 obtain⟨h1,h2,h3⟩:=G8 (s:=c.s) (p:=c.p) (by have:=hc.s6;omega) hc.ps
 unfold oL iY
 rw[(hc.new hg).1,if_pos h1,h2,h3,hg]
 rfl
theorem FI{s p:Nat}(hs:s<=255)(hp:p<=s):bV s p%2=0:=by
 have hr:bJ s p=true:=jS (by omega)
 have he:bV s p=2*s+131072*p:=by simp[bV,hr]
 omega
theorem zA{t:Int}(h:1<=t):mD (2*t+1)=0/\gB (2*t+1)=t:=by
 unfold mD gB
 rw[if_neg (by omega),if_neg (by omega),if_neg (by omega)]
 exact⟨rfl,by omega⟩
theorem TV{x:Int}(h:x%2=0):mD x≠0:=by
 unfold mD
 split
 ·decide
 ·rw[if_pos (.inl h)];decide
theorem Xg{c:Pc}(hc:oD c)(hg:c.g=false)(n:Nat)(ss:List (Int×Int))(k pos:Nat):jP n ss k pos c.h=some (iY pos c,k):=by
 have he:c.h%2=0:=by rw[(hc.new hg).1];exact FI (by have:=hc.s6;omega) hc.ps
 unfold jP
 rw[if_neg (TV he)]
 exact Oo hc hg k pos
theorem TY{c:Pc}(hc:oD c)(hg:c.g=true){n:Nat}{ss:List (Int×Int)}{k:Nat}(pos:Nat)(hk:k<n)(hs:ss.getD k (0,0)=((c.s:Int),(c.p:Int))):jP n ss k pos c.h=some (iY pos c,k+1):=by
 obtain⟨t,h1,h2,h3,h4⟩:=hc.gone hg
 have hr:bJ c.s c.p=true:=jS (by have:=hc.s6;have:=hc.ps;omega)
 unfold jP iY
 rw[h3,if_pos (zA h1).1,hs,if_pos ⟨hk,hr⟩,hg]
 rfl
theorem LG{c:Pc}(hc:oD c){zs:List Int}{pos:Nat}{l:List Pc}(h:rH zs pos (wordsOf (c::l))):iK (iY pos c) zs c.s=true:=by
 rw[mP]
 intro i hi
 have h1:=FH h (i:=i) (by rw[hc.len];exact hi)
 have e:(iY pos c).pos.toNat+1+i=pos+1+i:=by simp[iY]
 rw[e,h1]
 rcases Bool.eq_false_or_eq_true c.g with hg|hg
 ·obtain⟨t,_,_,_,h4⟩:=hc.gone hg
  have h5:c.ys.getD i 0=0:=by
   rw[h4]
   simp only[List.getD,List.getElem?_replicate]
   split<;>rfl
  rw[h5]
  simp[gU,iY,hg]
 ·obtain⟨_,h2⟩:=hc.new hg
  by_cases hip:i<c.p
  ·rw[gU,h2 i hip];simp[iY,hg]
  ·have:decide ((i:Int)<(iY pos c).p)=false:=decide_eq_false (by simp only[iY];omega)
   rw[gU,this];simp[iY,hg]
theorem Ar{bg:Nat->Nat->Int->Option (Ob×Nat)}{c:Pc}(hc:oD c){zs:List Int}{len f k k' pos:Nat}{acc:List Ob}{l:List Pc}(h:rH zs pos (wordsOf (c::l)))(hlen:pos+1+c.s<=len)(hb:bg k pos c.h=some (iY pos c,k')):
  aV bg zs len (f+1) k pos acc=aV bg zs len f k' (pos+1+c.s) (acc++[iY pos c]):=by
 rw[fC (by omega),FD h,hb]
 have hs:=LG hc h
 have e:(iY pos c).s.toNat=c.s:=by simp[iY]
 simp only[e]
 rw[if_neg (by omega),if_pos hs]
theorem Ua{l:List Pc}:∀{zs:List Int}{len f k pos:Nat}{acc:List Ob},Good l->(∀c∈l,c.g=false)->rH zs pos (wordsOf l)->pos+(wordsOf l).length<=len->
  aV oL zs len (f+l.length) k pos acc=aV oL zs len f k (pos+(wordsOf l).length) (acc++bY pos l):=by
 induction l with
 |nil=>intro zs len f k pos acc _ _ _ _;simp[wordsOf,bY]
 |cons c l ih=>
  intro zs len f k pos acc hg hn hz hl
  have hc:=hg c List.mem_cons_self
  have hw:(wordsOf (c::l)).length=1+c.s+(wordsOf l).length:=by rw[eG];simp[hc.len];omega
  rw[show f+(c::l).length=(f+l.length)+1 from by simp;omega]
  rw[Ar hc hz (by omega) (Oo hc (hn c List.mem_cons_self) k pos)]
  rw[ih (λd hd=>hg d (List.mem_cons_of_mem _ hd)) (λd hd=>hn d (List.mem_cons_of_mem _ hd)) (xA hc.len hz) (by omega)]
  rw[hw]
  simp only[bY,List.append_assoc,List.singleton_append]
  rw[show pos+1+c.s+(wordsOf l).length=pos+(1+c.s+(wordsOf l).length)from by omega]
theorem Ub{l:List Pc}:∀{zs:List Int}{len f k pos n:Nat}{ss:List (Int×Int)}{acc:List Ob},Good l->rH zs pos (wordsOf l)->pos+(wordsOf l).length<=len->(∀j,j<(aJ l).length->ss.getD (k+j) (0,0)=(aJ l).getD j (0,0))->k+(aJ l).length<=n->
  aV (jP n ss) zs len (f+l.length) k pos acc=aV (jP n ss) zs len f (k+(aJ l).length) (pos+(wordsOf l).length) (acc++bY pos l):=by
 induction l with
 |nil=>intro zs len f k pos n ss acc _ _ _ _ _;simp[wordsOf,bY,aJ]
 |cons c l ih=>
  intro zs len f k pos n ss acc hg hz hl hs hn
  have hc:=hg c List.mem_cons_self
  have hw:(wordsOf (c::l)).length=1+c.s+(wordsOf l).length:=by rw[eG];simp[hc.len];omega
  rw[show f+(c::l).length=(f+l.length)+1 from by simp;omega]
  cases hcg:c.g with
  |false=>
   have hsh:aJ (c::l)=aJ l:=by simp[aJ,hcg]
   rw[hsh]at hs hn
   rw[Ar hc hz (by omega) (Xg hc hcg n ss k pos)]
   rw[ih (λd hd=>hg d (List.mem_cons_of_mem _ hd)) (xA hc.len hz) (by omega) hs hn]
   rw[hw,hsh]
   simp only[bY,List.append_assoc,List.singleton_append]
   rw[show pos+1+c.s+(wordsOf l).length=pos+(1+c.s+(wordsOf l).length)from by omega]
  |true=>
   have hsh:aJ (c::l)=((c.s:Int),(c.p:Int))::aJ l:=by simp[aJ,hcg]
   rw[hsh]at hs hn
   simp only[List.length_cons]at hs hn
   have h0:=hs 0 (by omega)
   simp at h0
   rw[Ar hc hz (by omega) (TY hc hcg pos (by omega) (by simpa [List.getD]using h0))]
   rw[ih (λd hd=>hg d (List.mem_cons_of_mem _ hd)) (xA hc.len hz) (by omega) (λj hj=>by
    have:=hs (j+1) (by omega)
    rw[show k+1+j=k+(j+1)from by omega,this]
    simp[List.getD]) (by omega)]
   rw[hw,hsh]
   simp only[bY,List.append_assoc,List.singleton_append,List.length_cons]
   rw[show pos+1+c.s+(wordsOf l).length=pos+(1+c.s+(wordsOf l).length)from by omega,show k+1+(aJ l).length=k+((aJ l).length+1)from by omega]
theorem Au{l:List Pc}:l.length<=(wordsOf l).length:=by
 induction l with
 |nil=>simp
 |cons c l ih=>rw[eG];simp;omega
theorem Xh{l:List Pc}(hg:Good l)(hn:∀c∈l,c.g=false):newF (wordsOf l)=.ok (bY 0 l) 0:=by
 unfold newF
 have hl:=Au (l:=l)
 rw[show(wordsOf l).length+1=((wordsOf l).length+1-l.length)+l.length from by omega]
 rw[Ua hg hn (λj hj=>by simp) (by omega)]
 rw[show(wordsOf l).length+1-l.length=((wordsOf l).length-l.length)+1 from by omega]
 simp only[Nat.zero_add,List.nil_append]
 exact gQ (by omega)
theorem Xi{l:List Pc}(hg:Good l)(ex:List (Int×Int)):iq (wordsOf l) (aJ l++ex)=if ex=[]then .ok (bY 0 l) (aJ l).length else .err 3 (aJ l).length:=by
 unfold iq
 have hl:=Au (l:=l)
 rw[show(wordsOf l).length+1=((wordsOf l).length+1-l.length)+l.length from by omega]
 rw[Ub hg (λj hj=>by simp) (by omega) (λj hj=>by
  simp only[List.getD,Nat.zero_add]
  rw[List.getElem?_append_left hj]) (by simp)]
 rw[show(wordsOf l).length+1-l.length=((wordsOf l).length-l.length)+1 from by omega]
 simp only[Nat.zero_add,List.nil_append]
 rw[gQ (by omega)]
 unfold jv
 by_cases h:ex=[]
 ·subst h;simp
 ·have:0<ex.length:=List.length_pos_iff.2 h
  simp only
  rw[if_pos (by simp;omega),if_neg h]
end Go.Proofs.YtpgjploaliefdaaGreat.ob
namespace Go.Proofs.YtpgjploaliefdaaGreat.ob
open Go.RowKit hd
set_option linter.unusedVariables false
set_option linter.unusedSimpArgs false
theorem acr(w:World)(xs:List Int)(b:Nat)(h:aj w b (xs.map (λn:Int=>Value.int .i64 n)).toArray 3)(hl:xs.length<1000000):IntsIn w (.slice (some ⟨b,0,none⟩) xs.length xs.length) xs:=by
 obtain⟨lb,cb,fb⟩:=h.get
 refine⟨some ⟨b,0,none⟩,b,0,xs.length,rfl,⟨λ_=>rfl,λe=>by cases e⟩,Nat.le_refl _,by omega,lb,G6 λi hi=> ?_⟩
 rw[cb (0+i)]
 simp[List.getD,hi]
theorem sF(w:World)(l:List Ob)(b:Nat)(h:aj w b (jX l).toArray 58)(hl:l.length<1000000):bT w (.slice (some ⟨b,0,none⟩) l.length l.length) l:=by
 obtain⟨lb,cb,fb⟩:=h.get
 refine⟨some ⟨b,0,none⟩,b,0,l.length,rfl,⟨λ_=>rfl,λe=>by cases e⟩,Nat.le_refl _,by omega,lb,ig.of λi hi=> ?_⟩
 have key:∀j u,j<5->(dG (dL l i))[j]? =some u->w.cell? ⟨b,0+i*5+j,none⟩=some u:=by
  intro j u hj hu
  rw[cb]
  simp only[Nat.zero_add,List.getElem?_toArray]
  rw[xw l i j hi hj];exact hu
 exact⟨key 0 _ (by omega) rfl,key 1 _ (by omega) rfl,key 2 _ (by omega) rfl,key 3 _ (by omega) rfl,key 4 _ (by omega) rfl⟩
theorem LH(w:World)(s p:Int)(b:Nat)(h:aj w b #[.int .i64 s,.int .i64 p] 56):dV w (.slice (some ⟨b,0,none⟩) 1 1) [(s,p)]:=by
 obtain⟨lb,cb,fb⟩:=h.get
 refine⟨some ⟨b,0,none⟩,b,0,1,rfl,⟨λ_=>rfl,λe=>by cases e⟩,Nat.le_refl _,by simp,lb,?_⟩
 unfold cZ
 intro i hi
 have:i=0:=by simp at hi;exact hi
 subst this
 exact⟨by rw[cb];rfl,by rw[cb];rfl⟩
theorem aw1:aV oL [131078,11,5,6] 4 5 0 0 []=.ok [⟨0,3,1,false,0⟩] 0:=by kernel_rfl
theorem aw2:dY 4 [⟨0,3,1,false,0⟩] []=some [1,2,3,3]:=by kernel_rfl
theorem aw3:aV oL [131078,11,5] 3 4 0 0 []=.err 2 0:=by kernel_rfl
theorem aw4:aV oL [131078,10,5,6] 4 5 0 0 []=.err 3 0:=by kernel_rfl
theorem aw5:∃k,iq [9,0,2,8] [(1,0)]=.ok [⟨0,1,0,true,4⟩,⟨2,1,0,false,0⟩] k:=⟨1,by kernel_rfl⟩
theorem aw6:iq [9] []=.err 3 0:=by kernel_rfl
theorem aw7:Dv 3 1 [11,5,6]/\jI [11,5,6] 1/\bV 3 1=131078:=by
 refine⟨⟨by decide,rfl⟩,λi hi=> ?_,by decide⟩
 have:i=0:=by omega
 subst this
 decide
theorem aw8:¬Dv 3 1 []:=λh=>by have:=h.2;simp at this
end Go.Proofs.YtpgjploaliefdaaGreat.ob
