/- Words of raw objects: their pieces; rows of shapes. No conditions. -/
import Derived.Test.YtpgjploaliefdaaGreatSg
import Derived.Test.YtpgjploaliefdaaGreatAz
import Derived.Test.YtpgjploaliefdaaGreatOp
namespace Go.Proofs.YtpgjploaliefdaaGreat.ob
open Go.RowKit hd
set_option linter.unusedVariables false
set_option linter.unusedSimpArgs false
theorem uD:(Tryz.prog.info? 56).map (λi=>(i.zero,i.size,i.bytes))=some (some (.agg #[.int .i64 0,.int .i64 0]),2,16):=by kernel_rfl
def lC:List (Int×Int)->List Value
 |[]=>[]
 |(s,p)::l=>.int .i64 s:: .int .i64 p::lC l
theorem F6(l m:List (Int×Int)):lC (l++m)=lC l++lC m:=by
 induction l with
 |nil=>rfl
 |cons a l ih=>obtain⟨s,p⟩:=a;simp[lC,ih]
theorem Bh(l:List (Int×Int)):(lC l).length=l.length*2:=by
 induction l with
 |nil=>rfl
 |cons a l ih=>obtain⟨s,p⟩:=a;simp[lC,ih];omega
theorem F7(l:List (Int×Int)):∀u∈lC l,u.oneCell'=true:=by
 induction l with
 |nil=>intro u hu;cases hu
 |cons a l ih=>
  obtain⟨s,p⟩:=a
  intro u hu
  simp[lC]at hu
  rcases hu with rfl|rfl|hu
  ·rfl
  ·rfl
  ·exact ih u hu
theorem F8(l:List (Int×Int))(i:Nat)(hi:i<l.length):(lC l)[i*2]? =some (.int .i64 (l.getD i (0,0)).1)/\(lC l)[i*2+1]? =some (.int .i64 (l.getD i (0,0)).2):=by
 induction l generalizing i with
 |nil=>simp at hi
 |cons a l ih=>
  obtain⟨s,p⟩:=a
  cases i with
  |zero=>simp[lC,List.getD]
  |succ i=>
   have:=ih i (by simpa using hi)
   have e:(i+1)*2=i*2+1+1:=by omega
   rw[e]
   simpa [lC,List.getD]using this
def bH(W:World)(B:Nat)(v:Value)(ss:List (Int×Int)):Prop:=W.ownsRow B 56 2 v ss.length (lC ss)
theorem bH.nil(W:World)(B:Nat):bH W B (.slice none 0 0) []:=World.ownsRow_nil _ _ _ _
theorem bH.row{W w:World}{B:Nat}{v:Value}{zs:List (Int×Int)}{r:Option Nat}(h:bH W B v zs)(hg:W.grownBy w r)(hr:v.ownBlock=none\/v.ownBlock≠r):bH w B v zs:=World.ownsRow.kept h hg hr
theorem bH.tr{W w:World}{B:Nat}{v:Value}{zs:List (Int×Int)}(h:bH W B v zs)(hb:Below W.heap.size W w):bH w B v zs:=by
 refine World.ownsRow.kept h (below_grown hb none) ?_
 rcases hv:v.ownBlock with _|k
 ·exact .inl rfl
 ·exact .inr (λe=>by cases e)
theorem aT.row{W w:World}{B:Nat}{v:Value}{zs:List Int}{r:Option Nat}(h:aT W B v zs)(hg:W.grownBy w r)(hr:v.ownBlock=none\/v.ownBlock≠r):aT w B v zs:=World.ownsRow.kept h hg hr
theorem bH.sees{W:World}{B:Nat}{v:Value}{ss:List (Int×Int)}(h:bH W B v ss)(h0:0<W.heap.size)(hl:ss.length<1000000000000):dV W v ss:=by
 rcases h.2 with⟨rfl,h1⟩|⟨g,cap,cur,rfl,h1,h2,h3,h4,h5,h6⟩
 ·have hz:ss=[]:=List.eq_nil_of_length_eq_zero h1
  subst hz
  exact dV.nil h0
 ·have hB:aj W g cur 56:=aj.of h2
  refine⟨some ⟨g,0,none⟩,g,0,cap,rfl,⟨λ_=>rfl,λe=>by cases e⟩,h3,⟨by unfold maxLen at h4;omega,hl⟩,hB.lt,?_⟩
  unfold cZ
  intro i hi
  obtain⟨f1,f2⟩:=F8 ss i hi
  have e:∀j,(⟨g,0,none⟩:Addr).add j=⟨g,j,none⟩:=λj=>by unfold Addr.add;split<;>simp_all
  have g1:=World.ownsRow.cells h (g:=g) rfl _ _ f1
  have g2:=World.ownsRow.cells h (g:=g) rfl _ _ f2
  rw[e]at g1 g2
  exact⟨by simpa using g1,by simpa using g2⟩
theorem bH.form{W:World}{B:Nat}{v:Value}{zs:List (Int×Int)}(h:bH W B v zs):∃va l vc,v=.slice va l vc/\l=zs.length:=by
 rcases h.2 with⟨rfl,h1⟩|⟨g,cap,cur,rfl,_⟩
 ·rw[h1];exact⟨_,_,_,rfl,rfl⟩
 ·exact⟨_,_,_,rfl,rfl⟩
theorem Ec{w:World}{u:Value}{ys:List (Int×Int)}(h:dV w u ys):(u=.slice none 0 0/\ys.length=0/\lC ys=[])\/∃ad c,u=.slice (some ad) ys.length c/\∀j y,(lC ys)[j]? =some y->w.cell? (ad.add j)=some y:=by
 obtain⟨ad,b,off,cap,rfl,⟨h1,h2⟩,h3,h4,h5,h6⟩:=h
 rcases ad with _|ad
 ·have hz:ys=[]:=by
   rcases Nat.eq_zero_or_pos ys.length with e|e
   ·exact List.eq_nil_of_length_eq_zero e
   ·cases h1 e
  subst hz
  rw[h2 rfl]
  exact .inl ⟨rfl,rfl,rfl⟩
 ·refine .inr ⟨ad,cap,rfl,λj y hj=> ?_⟩
  have hl:j<ys.length*2:=by
   rcases Nat.lt_or_ge j (ys.length*2)with e|e
   ·exact e
   ·rw[List.getElem?_eq_none (by rw[Bh];exact e)]at hj;cases hj
  have h7:=h1 (by omega)
  cases h7
  have e:(⟨b,off,none⟩:Addr).add j=⟨b,off+j,none⟩:=by unfold Addr.add;split<;>simp_all
  rw[e]
  obtain⟨c1,c2⟩:=h6.at (j/2) (by omega)
  obtain⟨f1,f2⟩:=F8 ys (j/2) (by omega)
  rcases Nat.mod_two_eq_zero_or_one j with hm|hm
  ·have ej:j=j/2*2:=by omega
   rw[<-ej]at f1
   rw[hj]at f1
   rw[show off+j=off+j/2*2 from by omega,c1,f1]
  ·have ej:j=j/2*2+1:=by omega
   rw[<-ej]at f2
   rw[hj]at f2
   rw[show off+j=off+j/2*2+1 from by omega,c2,f2]
theorem MF{ops:Array Oper}{rest:List Oper}{o:Oper}{a:Act}{Q:Exit->Act->World->Prop}(w:World)(hw:Region.wanted o (yielded ops a.tmps)=true)(s x:Operand)
  (ho:o.op=.call {callee:=.builtin .append,args:= #[s,x],argTypes:= #[39,39]})
  (B:Nat) (v u:Value) (xs ys:List (Int×Int)) (hs:a.eval s=v) (hx:a.eval x=u) (hown:bH w B v xs) (hys:dV w u ys) (hbig:xs.length+ys.length<1000000000000) (hB:B<=w.heap.size)
  (h:∀v' w',bH w' B v' (xs++ys)->w.grownBy w' v.ownBlock->(v'.ownBlock=v.ownBlock\/v'.ownBlock=some w.heap.size)->wpList Tryz.prog ops Q rest (a.put o.dst v') w'):wpList Tryz.prog ops Q (o::rest) a w:=by
 obtain⟨i0,hi,hz0,hz1,hz2⟩:=info_parts uD
 refine mW w hw s x _ ho B 56 i0 (.agg #[.int .i64 0,.int .i64 0]) 2 16 Tryz.underlying39 hi hz0 hz1 hz2 rfl (by decide) v xs.length (lC xs) hs hown u ys.length (lC ys) hx (Ec hys) (Bh ys) (F7 ys) (by unfold maxLen;omega) (by omega) hB ?_
 intro v' w' h2 h3 h4
 refine h v' w' ?_ h3 h4
 unfold bH
 rw[F6]
 simpa using h2
theorem YT{ops:Array Oper}{o:Oper}{a:Act}{Q:Exit->Act->World->Prop}{w:World}{K:Act->World->Prop}{E:Prop}(hg:o.guard=none)(s x:Operand)
  (ho:o.op=.call {callee:=.builtin .append,args:= #[s,x],argTypes:= #[39,39]})
  (B:Nat) (v u:Value) (xs ys:List (Int×Int)) (hs:a.eval s=v) (hx:a.eval x=u) (hown:bH w B v xs) (hys:dV w u ys) (hbig:xs.length+ys.length<1000000000000) (hB:B<=w.heap.size)
  (h:∀v' w',bH w' B v' (xs++ys)->w.grownBy w' v.ownBlock->(v'.ownBlock=v.ownBlock\/v'.ownBlock=some w.heap.size)->K (a.put o.dst v') w'):
  if Region.wanted o (yielded ops a.tmps)=true then Oper.wp Tryz.prog o a w K Q else E:=by
 obtain⟨i0,hi,hz0,hz1,hz2⟩:=info_parts uD
 refine Jt hg s x _ ho B 56 i0 (.agg #[.int .i64 0,.int .i64 0]) 2 16 Tryz.underlying39 hi hz0 hz1 hz2 rfl (by decide) v xs.length (lC xs) hs hown u ys.length (lC ys) hx (Ec hys) (Bh ys) (F7 ys) (by unfold maxLen;omega) (by omega) hB ?_
 intro v' w' h2 h3 h4
 refine h v' w' ?_ h3 h4
 unfold bH
 rw[F6]
 simpa using h2
theorem QA{ops:Array Oper}{rest:List Oper}{o:Oper}{a:Act}{Q:Exit->Act->World->Prop}(w:World)(hw:Region.wanted o (yielded ops a.tmps)=true)(s x:Operand)
  (ho:o.op=.call {callee:=.builtin .append,args:= #[s,x],argTypes:= #[29,3]})
  (B g l c m:Nat) (xs:List Int) (hs:a.eval s=.slice (some ⟨g,0,none⟩) l c) (hx:a.eval x=.int .i64 (m:Int)) (hown:aT w B (.slice (some ⟨g,0,none⟩) l c) xs) (hl:l=xs.length) (hbig:xs.length+m<1000000000000) (hB:B<=w.heap.size)
  (h:∀v' w',aT w' B v' (xs++List.replicate m 0)->w.grownBy w' (some g)->(v'.ownBlock=some g\/v'.ownBlock=some w.heap.size)->wpList Tryz.prog ops Q rest (a.put o.dst v') w'):wpList Tryz.prog ops Q (o::rest) a w:=by
 obtain⟨i0,hi,hz0,hz1,hz2⟩:=info_parts rY
 subst hl
 obtain⟨v',w',hr,h2,h3,h4⟩:=Bd (P:=Tryz.prog) w B 29 3 o.type 24 i0 (.int .u64 0) Tryz.underlying29 Tryz.underlying3 hi hz0 hz1 hz2 rfl rfl g xs.length c (xs.map (λn:Int=>Value.int .u64 n)) hown m hbig hB
 refine wpList_step λK hK=> ?_
 rw[if_pos hw]
 unfold Oper.wp execOp
 simp only[ho,resolve,invoke,builtin,Sem.run_bind,Sem.run_pure,Result.andThen_ok,List.map_toArray,List.map_cons,List.map_nil,hs,hx,hr]
 refine hK _ _ (h v' w' ?_ h3 h4)
 unfold aT
 simpa using h2
structure XC(i:Nat)(old:Bool)(r:Rw)(c:Pc):Prop where
 hs:aC r.sz 7=c.s
 hp:aC r.pt (c.s+1)=c.p
 hg:c.g=(old&&r.g)
 len:c.ys.length=c.s
 s6:c.s<=6
 ps:c.p<=c.s
 small:Small c.ys
 new:c.g=false->c.h=bV c.s c.p/\jI c.ys c.p
 gone:c.g=true->c.h=2*(100+i)+1/\c.ys=List.replicate c.s 0
def YU(l:List Pc)(i:Nat):Pc:=l.getD i ⟨0,0,0,false,[]⟩
def zN(old:Bool)(L:List Rw)(l:List Pc):Prop:=∀i,i<l.length->XC i old (Qy L i) (YU l i)
theorem UH{old:Bool}{L:List Rw}{l:List Pc}{c:Pc}{k:Nat}(hk:l.length=k)(h:zN old L l)(hc:XC k old (Qy L k) c):zN old L (l++[c]):=by
 intro i hi
 by_cases e:i<l.length
 ·have:=h i e
  unfold YU at this⊢
  simpa [List.getD,List.getElem?_append_left e]using this
 ·have e2:i=k:=by simp at hi;omega
  subst e2
  unfold YU
  simpa [List.getD,<-hk]using hk▸hc
theorem yI(l:List Pc)(c:Pc):wordsOf (l++[c])=wordsOf l++c.h::c.ys:=by simp[wordsOf]
theorem EX(l:List Pc){c:Pc}(h:c.g=true):aJ (l++[c])=aJ l++[((c.s:Int),(c.p:Int))]:=by simp[aJ,List.filter_append,h]
theorem yw(l:List Pc){c:Pc}(h:c.g=false):aJ (l++[c])=aJ l:=by simp[aJ,List.filter_append,h]
theorem Ed:∀{l:List Pc},(∀c∈l,c.ys.length<=6)->(wordsOf l).length<=7*l.length
 |[],_=>by simp[wordsOf]
 |c::l,h=>by
  have h1:=Ed (l:=l) (λd hd=>h d (List.mem_cons_of_mem _ hd))
  have h2:=h c List.mem_cons_self
  simp only[wordsOf,List.flatMap_cons,List.length_append,List.length_cons]at h1⊢
  omega
theorem XD{old:Bool}{L:List Rw}{l:List Pc}(h:zN old L l){c:Pc}(hc:c∈l):∃i,i<l.length/\YU l i=c/\XC i old (Qy L i) c:=by
 obtain⟨i,hi,e⟩:=List.mem_iff_getElem.1 hc
 have h1:=h i hi
 have e2:YU l i=c:=by unfold YU;simp[List.getD,hi,e]
 exact⟨i,hi,e2,e2▸h1⟩
theorem xJ{old:Bool}{L:List Rw}{l:List Pc}(h:zN old L l):(wordsOf l).length<=7*l.length:=
 Ed λc hc=>by
  obtain⟨i,_,_,hok⟩:=XD h hc
  have:=hok.len
  have:=hok.s6
  omega
theorem yJ(l:List Pc):(aJ l).length<=l.length:=by
 simp only[aJ,List.length_map]
 exact List.length_filter_le _ _
end Go.Proofs.YtpgjploaliefdaaGreat.ob
