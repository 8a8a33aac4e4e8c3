/- Words that are walked: plain laws; append as a step of a region that draws. No conditions. -/
import Derived.Test.YtpgjploaliefdaaGreatG03
import Derived.Deep.RegionHeld3
namespace Go.Proofs.YtpgjploaliefdaaGreat.ob
open Go.RowKit hd
set_option linter.unusedVariables false
set_option linter.unusedSimpArgs false
theorem ae4{s p:Nat}(hs:s<=255)(hp:p<=s):0<=bV s p/\bV s p<18446744073709551616:=by
 have hr:bJ s p=true:=jS (by omega)
 have he:bV s p=2*s+131072*p:=by simp[bV,hr]
 omega
theorem Qx{zs:List Int}{len f k pos:Nat}{acc:List Ob}{s p:Nat}(hs:s<=255)(hp:p<=s)(hh:zs.getD pos 0=bV s p)(hlen:pos+1+s<=len)(agp:∀i,i<p->oO (zs.getD (pos+1+i) 0)=true):
  aV oL zs len (f+1) k pos acc=aV oL zs len f k (pos+1+s) (acc++[⟨pos,s,p,false,0⟩]):=by
 obtain⟨h1,h2,h3⟩:=G8 hs hp
 have hb:oL k pos (zs.getD pos 0)=some (⟨pos,s,p,false,0⟩,k):=by rw[hh];unfold oL;rw[if_pos h1,h2,h3]
 have hso:iK ⟨pos,s,p,false,0⟩ zs s=true:=by
  rw[mP]
  intro i hi
  simp only[gU,Int.toNat_natCast]
  by_cases hip:i<p
  ·have:=agp i hip
   rw[this];simp
  ·simp;omega
 rw[fC (by omega),hb]
 simp only[Int.toNat_natCast]
 rw[if_neg (by omega),if_pos hso]
theorem Jt{P:Program}{ops:Array Oper}{o:Oper}{a:Act}{Q:Exit->Act->World->Prop}{w:World}{K:Act->World->Prop}{E:Prop}(hg:o.guard=none)(s x:Operand)(t:TypeId)
  (ho:o.op=.call {callee:=.builtin .append,args:= #[s,x],argTypes:= #[t,t]})
  (base:Nat) (e:TypeId) (i:TypeInfo) (z:Value) (size bytes:Nat) (ht:P.underlying t=some (.slice e)) (hi:P.info? e=some i) (hz:i.zero=some z)
  (hsize:i.size=size) (hby:i.bytes=bytes) (hzs:z.cells.size=size) (hsz:0<size)
  (v:Value) (n:Nat) (xs:List Value) (hs:a.eval s=v) (hown:w.ownsRow base e size v n xs)
  (u:Value) (m:Nat) (news:List Value) (hx:a.eval x=u) (hsrc:(u=.slice none 0 0/\m=0/\news=[])\/∃ad c,u=.slice (some ad) m c/\∀j y,news[j]? =some y->w.cell? (ad.add j)=some y)
  (hl:news.length=m*size) (h1:∀u∈news,u.oneCell'=true)
  (h63:n+m<=maxLen) (hbytes:(n+m)*bytes<=140737488355328) (hbase:base<=w.heap.size)
  (h:∀v' w',w'.ownsRow base e size v' (n+m) (xs++news)->w.grownBy w' v.ownBlock->(v'.ownBlock=v.ownBlock\/v'.ownBlock=some w.heap.size)->K (a.put o.dst v') w'):
  if Region.wanted o (yielded ops a.tmps)=true then Oper.wp P o a w K Q else E:=by
 have hw:Region.wanted o (yielded ops a.tmps)=true:=by simp[Region.wanted,hg]
 rw[if_pos hw]
 rcases hsrc with⟨rfl,rfl,rfl⟩|⟨ad,c,rfl,hnews⟩
 ·have hr:=run_append_owned_none (P:=P) (w:=w) base t o.type e i size ht hi v n xs hown
  unfold Oper.wp execOp
  simp only[ho,resolve,invoke,builtin,Sem.run_bind,Sem.run_pure,Result.andThen_ok,List.map_toArray,List.map_cons,List.map_nil,hs,hx,hr]
  exact h v w (by simpa using hown) ⟨rfl,rfl,rfl,Nat.le_refl _,λ_ _ _=>rfl⟩ (.inl rfl)
 ·obtain⟨v',w',hr,h2,h3,h4,h5⟩:=run_append_own_at (P:=P) w base t o.type e i z size bytes ht hi hz hsize hby hzs hsz v n xs hown ad m c news hl hnews h1 h63 hbytes hbase
  unfold Oper.wp execOp
  simp only[ho,resolve,invoke,builtin,Sem.run_bind,Sem.run_pure,Result.andThen_ok,List.map_toArray,List.map_cons,List.map_nil,hs,hx,hr]
  exact h v' w' h2 h3 h5
theorem xI{ops:Array Oper}{o:Oper}{a:Act}{Q:Exit->Act->World->Prop}{w:World}{K:Act->World->Prop}{E:Prop}(hg:o.guard=none)(s x:Operand)
  (ho:o.op=.call {callee:=.builtin .append,args:= #[s,x],argTypes:= #[29,29]})
  (B:Nat) (v u:Value) (xs ys:List Int) (hs:a.eval s=v) (hx:a.eval x=u) (hown:aT w B v xs) (hys:aN w u ys) (hbig:xs.length+ys.length<1000000000000) (hB:B<=w.heap.size)
  (h:∀v' w',aT w' B v' (xs++ys)->w.grownBy w' v.ownBlock->(v'.ownBlock=v.ownBlock\/v'.ownBlock=some w.heap.size)->K (a.put o.dst v') w'):
  if Region.wanted o (yielded ops a.tmps)=true then Oper.wp Tryz.prog o a w K Q else E:=by
 obtain⟨i0,hi,hz0,hz1,hz2⟩:=info_parts rY
 refine Jt hg s x _ ho B 24 i0 (.int .u64 0) 1 8 Tryz.underlying29 hi hz0 hz1 hz2 rfl (by decide) v xs.length (xs.map (λn:Int=>Value.int .u64 n)) hs hown u ys.length (ys.map (λn:Int=>Value.int .u64 n)) hx (BM hys) (by simp) (BN ys) (by unfold maxLen;omega) (by omega) hB ?_
 intro v' w' h2 h3 h4
 refine h v' w' ?_ h3 h4
 unfold aT
 simpa using h2
theorem aT.form{W:World}{B:Nat}{v:Value}{zs:List Int}(h:aT W B v zs):∃va l vc,v=.slice va l vc/\l=zs.length:=by
 rcases h.2 with⟨rfl,h1⟩|⟨g,cap,cur,rfl,_⟩
 ·rw[h1];exact⟨_,_,_,rfl,rfl⟩
 ·exact⟨_,_,_,rfl,rfl⟩
theorem below_app{w w':World}{o:Obj}{r:Option Nat}(hg:(w.alloc o).grownBy w' r)(hr:∀k,r=some k->w.heap.size<=k):Below w.heap.size w w':=
 ⟨hg.os,hg.tape,hg.output,Nat.le_trans (by simp) hg.size,λj hj=>(hg.block j (by simp;omega) (λe=>by have:=hr j e.symm;omega)).trans (Below.heap_alloc _ _ _ hj)⟩
theorem kM{a:Nat}{w:World}{o:Obj}(h:a<=w.heap.size):a<=(w.alloc o).heap.size:=Nat.le_trans h (by simp)
theorem ae5{α:Type} [DecidableEq α](a:α):decide (a=a)=true:=by simp
theorem qW{w W0 W W':World}{v:Value}{zs:List Int}(hb:Below w.heap.size w W)(ho:aT W0 w.heap.size v zs)(hg:W.grownBy W' v.ownBlock):Below w.heap.size w W':=by
 have hol:=World.ownsRow.lt ho
 exact⟨hg.os.trans hb.os,hg.tape.trans hb.tape,hg.output.trans hb.output,Nat.le_trans hb.size hg.size,λj hj=>(hg.block j (Nat.lt_of_lt_of_le hj hb.size) (λe=>by have:=hol j e.symm;omega)).trans (hb.block j hj)⟩
theorem aT.block{W:World}{B:Nat}{v:Value}{zs:List Int}(h:aT W B v zs)(h0:0<zs.length):∃g cap,v=.slice (some ⟨g,0,none⟩) zs.length cap/\B<=g/\g<W.heap.size/\∀i,i<zs.length->W.cell? ⟨g,i,none⟩=some (.int .u64 (zs.getD i 0))/\W.frozen? ⟨g,i,none⟩=false:=by
 rcases h.2 with⟨rfl,h1⟩|⟨g,cap,cur,rfl,h1,h2,h3,h4,h5,h6⟩
 ·omega
 ·have hB:aj W g cur 24:=aj.of h2
  obtain⟨lg,cg,fg⟩:=hB.get
  refine⟨g,cap,rfl,h1,lg,λi hi=>⟨?_,fg i⟩⟩
  have h7:=World.ownsRow.cells h (g:=g) rfl i (.int .u64 (zs.getD i 0)) (by simp[List.getD,List.getElem?_eq_getElem hi])
  have e:(⟨g,0,none⟩:Addr).add i=⟨g,i,none⟩:=by unfold Addr.add;split<;>simp_all
  rw[e]at h7
  exact h7
theorem aT.set{W:World}{B g l c k:Nat}{zs:List Int}(h:aT W B (.slice (some ⟨g,0,none⟩) l c) zs)(x:Int):aT (W.setCell ⟨g,k,none⟩ (.int .u64 x)) B (.slice (some ⟨g,0,none⟩) l c) (zs.set k x):=by
 rcases h.2 with⟨h0,_⟩|⟨g',cap,cur,h0,h1,h2,h3,h4,h5,h6⟩
 ·cases h0
 ·cases h0
  have hB:aj W g cur 24:=aj.of h2
  refine⟨by simp,.inr ⟨g,c,cur.setIfInBounds k (.int .u64 x),by simp,h1,(hB.set k (.int .u64 x)).raw,by simpa using h3,h4,by simpa using h5,?_⟩⟩
  rw[List.map_set,<-h6]
  simp[List.take_set]
theorem Bc{zs:List Int}(h:Small zs){x:Int}(hx:0<=x/\x<18446744073709551616)(k:Nat):Small (zs.set k x):=by
 intro i
 have:=h i
 simp only[List.getD,List.getElem?_set]at this⊢
 split
 ·split
  ·exact hx
  ·simp
 ·exact this
theorem Ju{zs:List Int}{k i:Nat}{x:Int}(hk:k<zs.length):(zs.set k x).getD i 0=if i=k then x else zs.getD i 0:=by
 simp only[List.getD,List.getElem?_set]
 by_cases h:i=k
 ·subst h;simp[hk]
 ·rw[if_neg (λe=>h e.symm),if_neg h]
theorem acO{ys:List Int}{k p:Nat}{x:Int}(hk:k<ys.length)(h:jI ys p):jI (ys.set k x) p↔(k<p->oO x=true):=by
 constructor
 ·intro q hkp
  have:=q k hkp
  rw[Ju hk,if_pos rfl]at this
  exact this
 ·intro q i hi
  rw[Ju hk]
  split
  ·rename_i e;subst e;exact q hi
  ·exact h i hi
theorem ae6{x:Int}:mD x=3↔oO x=false:=by
 unfold mD oO
 rw[decide_eq_false_iff_not]
 split
 ·simp_all
 ·split
  ·simp;omega
  ·simp;omega
theorem agq{W:World}{B:Nat}{v:Value}{l:List Ob}(h:cu W B v l)(h0:0<l.length):∃g cap,v=.slice (some ⟨g,0,none⟩) l.length cap/\B<=g/\g<W.heap.size/\ig W g 0 l.length l:=by
 rcases h.2 with⟨rfl,h1⟩|⟨g,cap,cur,rfl,h1,h2,h3,h4,h5,h6⟩
 ·omega
 ·have hB:aj W g cur 58:=aj.of h2
  refine⟨g,cap,rfl,h1,hB.lt,ig.of λi hi=> ?_⟩
  have key:∀j u,j<5->(dG (dL l i))[j]? =some u->W.cell? ⟨g,0+i*5+j,none⟩=some u:=by
   intro j u hj hu
   have h7:=World.ownsRow.cells h (g:=g) rfl (i*5+j) u (by rw[xw l i j hi hj];exact hu)
   have e:(⟨g,0,none⟩:Addr).add (i*5+j)=⟨g,0+i*5+j,none⟩:=by unfold Addr.add;split<;>simp_all
   rw[e]at h7
   exact h7
  exact⟨key 0 _ (by omega) rfl,key 1 _ (by omega) rfl,key 2 _ (by omega) rfl,key 3 _ (by omega) rfl,key 4 _ (by omega) rfl⟩
theorem acP{s p:Nat}{ys:List Int}(hs:s<=255)(hp:p<=s)(hl:ys.length=s)(hq:jI ys p):aV oL (bV s p::ys) (bV s p::ys).length ((bV s p::ys).length+1) 0 0 []=.ok [⟨0,s,p,false,0⟩] 0:=by
 rw[Qx (s:=s) (p:=p) hs hp (by simp) (by simp;omega) (λi hi=>by
  have:=hq i hi
  rw[show 0+1+i=i+1 from by omega]
  simpa using this)]
 have e:(bV s p::ys).length=s+1:=by simp;omega
 rw[e]
 exact gQ (by omega)
theorem agr{B:Nat}{S p:Nat}{ys:List Int}{e:Ending}{W:World}(h:Oj B S p ys e W)(hS:S<=255)(hp:p<=S)(hl:ys.length=S)(hq:jI ys p):∃v,e=.returned (.tuple #[v,.int .i64 0])/\aT W B v (bV S p::ys):=by
 have hok:Dv S p ys:=⟨jS (by omega),by omega⟩
 rcases h with⟨h,_⟩|⟨_,h,_⟩|⟨_,_,h⟩
 ·exact absurd hok h
 ·exact absurd (by simpa using hq) h
 ·exact h
theorem ags{B:Nat}{S p:Nat}{ys:List Int}{e:Ending}{W:World}(h:Oj B S p ys e W)(hS:S<=255)(hp:p<=S)(hl:ys.length=S)(hq:¬jI ys p):e=.returned (.tuple #[.slice none 0 0,.int .i64 3]):=by
 have hok:Dv S p ys:=⟨jS (by omega),by omega⟩
 rcases h with⟨h,_⟩|⟨_,_,h⟩|⟨_,h,_⟩
 ·exact absurd hok h
 ·exact h
 ·exact absurd (by simpa using h) hq
end Go.Proofs.YtpgjploaliefdaaGreat.ob
