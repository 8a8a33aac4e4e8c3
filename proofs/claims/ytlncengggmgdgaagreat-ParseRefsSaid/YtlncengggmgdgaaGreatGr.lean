/- Rows of anything: slices that are read, slices of one's own, append; over any program. No conditions. -/
import Derived.Test.YtlncengggmgdgaaGreatBase
import Derived.Maps.AppendAt
import Derived.Laws.AppendOwn
import Derived.Laws.OwnMore
set_option linter.unusedVariables false
set_option linter.unusedSimpArgs false
namespace Go.Proofs.YtlncengggmgdgaaGreat.gr
open Go.RowKit
theorem XB{P:Program}{ops:Array Oper}{rest:List Oper}{o:Oper}{a:Act}{Q:Exit->Act->World->Prop}(w:World)(hw:Region.wanted o (yielded ops a.tmps)=true)(s x:Operand)(t:TypeId)
  (ho:o.op=.call {callee:=.builtin .append,args:= #[s,x],argTypes:= #[t,t]})
  (base:Nat) (e:TypeId) (i:TypeInfo) (z:Value) (size bytes:Nat) (ht:P.underlying t=some (.slice e)) (hi:P.info? e=some i) (hz:i.zero=some z)
  (hsize:i.size=size) (hby:i.bytes=bytes) (hzs:z.cells.size=size) (hsz:0<size)
  (v:Value) (n:Nat) (xs:List Value) (hs:a.eval s=v) (hown:w.ownsRow base e size v n xs)
  (u:Value) (m:Nat) (news:List Value) (hx:a.eval x=u) (hsrc:(u=.slice none 0 0/\m=0/\news=[])\/∃ad c,u=.slice (some ad) m c/\∀j y,news[j]? =some y->w.cell? (ad.add j)=some y)
  (hl:news.length=m*size) (h1:∀u∈news,u.oneCell'=true)
  (h63:n+m<=maxLen) (hbytes:(n+m)*bytes<=140737488355328) (hbase:base<=w.heap.size)
  (h:∀v' w',w'.ownsRow base e size v' (n+m) (xs++news)->w.grownBy w' v.ownBlock->(v'.ownBlock=v.ownBlock\/v'.ownBlock=some w.heap.size)->wpList P ops Q rest (a.put o.dst v') w'):wpList P ops Q (o::rest) a w:=by
 refine wpList_step λK hK=> ?_
 rw[if_pos hw]
 rcases hsrc with⟨rfl,rfl,rfl⟩|⟨ad,c,rfl,hnews⟩
 ·have hr:=run_append_owned_none (P:=P) (w:=w) base t o.type e i size ht hi v n xs hown
  unfold Oper.wp execOp
  simp only[ho,resolve,invoke,builtin,Sem.run_bind,Sem.run_pure,Result.andThen_ok,List.map_toArray,List.map_cons,List.map_nil,hs,hx,hr]
  exact hK _ _ (h v w (by simpa using hown) ⟨rfl,rfl,rfl,Nat.le_refl _,λ_ _ _=>rfl⟩ (.inl rfl))
 ·obtain⟨v',w',hr,h2,h3,h4,h5⟩:=run_append_own_at (P:=P) w base t o.type e i z size bytes ht hi hz hsize hby hzs hsz v n xs hown ad m c news hl hnews h1 h63 hbytes hbase
  unfold Oper.wp execOp
  simp only[ho,resolve,invoke,builtin,Sem.run_bind,Sem.run_pure,Result.andThen_ok,List.map_toArray,List.map_cons,List.map_nil,hs,hx,hr]
  exact hK _ _ (h v' w' h2 h3 h5)
theorem XC{A B:World}(h:Below A.heap.size A B)(row:Option Nat):A.grownBy B row:=⟨h.os,h.tape,h.output,h.size,λk hk _=>h.block k hk⟩
theorem dF{C:Nat}{w w':World}{v:Value}{W:World}(hg:w.grownBy w' v.ownBlock)(hb:Below C W w)(hC:C<=W.heap.size)(ho:∀k,v.ownBlock=some k->C<=k):Below C W w':=
 ⟨hg.os.trans hb.os,hg.tape.trans hb.tape,hg.output.trans hb.output,Nat.le_trans hb.size hg.size,λj hj=>(hg.block j (by have:=hb.size;omega) (λe=>by have:=ho _ e.symm;omega)).trans (hb.block j hj)⟩
theorem eG{C:Nat}{W w:World}(h:Below C W w)(hC:C<=W.heap.size)(o:Obj):Below C W (w.alloc o):=
 ⟨h.os,h.tape,h.output,by have:=h.size;show _<=(w.heap.push _).size;simp;omega,λj hj=>(Below.heap_alloc w o j (by have:=h.size;omega)).trans (h.block j hj)⟩
theorem yM{w w':World}{v:Value}(hg:w.grownBy w' v.ownBlock){n:Nat}{cs:Array Value}{T:TypeId}(h:aW w n cs T)(hn:∀k,v.ownBlock=some k->k≠n):aW w' n cs T:=
 aW.of ((hg.block n h.lt (λe=>hn _ e.symm rfl)).trans h.raw)
section
variable {α : Type}
def jc(k:Nat)(en:α->List Value)(W:World)(v:Value)(zs:List α):Prop:=
 ∃(ad:Option Addr)(b off cap:Nat),v=.slice ad zs.length cap/\((0<zs.length->ad=some ⟨b,off,none⟩)/\(ad=none->cap=0))/\zs.length<=cap/\cap<9223372036854775808/\(0<zs.length->b<W.heap.size)/\
  ∀(i j:Nat)(x:α)(y:Value),zs[i]? =some x->(en x)[j]? =some y->W.cell? ⟨b,off+i*k+j,none⟩=some y
variable {k : Nat} {en : α → List Value}
theorem jc.tr{W w:World}{v:Value}{zs:List α}(h:jc k en W v zs)(hb:Below W.heap.size W w):jc k en w v zs:=by
 obtain⟨ad,b,off,cap,e,h1,h2,h3,h4,h5⟩:=h
 exact⟨ad,b,off,cap,e,h1,h2,h3,λh=>Nat.lt_of_lt_of_le (h4 h) hb.size,λi j x y hx hy=>aJ hb (h5 i j x y hx hy)⟩
theorem jc.nil{W:World}:jc k en W (.slice none 0 0) []:=⟨none,0,0,0,rfl,⟨λh=>by simp at h,λ_=>rfl⟩,Nat.le_refl _,by decide,λh=>by simp at h,λi j x y hx=>by simp at hx⟩
theorem jc.alloc{W:World}{v:Value}{zs:List α}(h:jc k en W v zs)(o:Obj):jc k en (W.alloc o) v zs:=h.tr ((Below.refl _ _).alloc (Nat.le_refl _) _)
theorem flat_get{hk:∀x:α,(en x).length=k}:∀(zs:List α)(i j:Nat)(x:α)(y:Value),zs[i]? =some x->(en x)[j]? =some y->(zs.flatMap en)[i*k+j]? =some y
 |[],i,j,x,y,h,_=>by simp at h
 |z::zs,0,j,x,y,h,h2=>by
  simp at h
  subst h
  have hj:j<(en z).length:=by
   rcases Nat.lt_or_ge j (en z).length with h|h
   ·exact h
   ·simp[h]at h2
  rw[List.flatMap_cons,Nat.zero_mul,Nat.zero_add,List.getElem?_append_left hj,h2]
 |z::zs,i+1,j,x,y,h,h2=>by
  have:=flat_get (hk:=hk) zs i j x y (by simpa using h) h2
  rw[List.flatMap_cons,List.getElem?_append_right (by rw[hk,Nat.succ_mul];omega),hk]
  rw[show(i+1)*k+j-k=i*k+j from by rw[Nat.succ_mul];omega]
  exact this
theorem Dj{hk:∀x:α,(en x).length=k}(zs:List α):(zs.flatMap en).length=zs.length*k:=by
 induction zs with
 |nil=>simp
 |cons z zs ih=>rw[List.flatMap_cons,List.length_append,ih,hk,List.length_cons,Nat.succ_mul,Nat.add_comm]
def aX(T:TypeId)(k:Nat)(en:α->List Value)(W:World)(B:Nat)(v:Value)(zs:List α):Prop:=W.ownsRow B T k v zs.length (zs.flatMap en)
variable {T : TypeId}
theorem aX.nil(W:World)(B:Nat):aX T k en W B (.slice none 0 0) []:=World.ownsRow_nil _ _ _ _
theorem aX.tr{W w:World}{B:Nat}{v:Value}{zs:List α}(h:aX T k en W B v zs)(hb:Below W.heap.size W w):aX T k en w B v zs:=by
 refine World.ownsRow.kept h (XC hb none) ?_
 rcases hv:v.ownBlock with _|k
 ·exact .inl rfl
 ·exact .inr (λe=>by cases e)
theorem aX.lift{W:World}{B C:Nat}{v:Value}{zs:List α}(h:aX T k en W B v zs)(hb:C<=B):aX T k en W C v zs:=by
 refine⟨h.1,?_⟩
 rcases h.2 with h|⟨g,cap,cur,h1,h2,h3⟩
 ·exact .inl h
 ·exact .inr ⟨g,cap,cur,h1,by omega,h3⟩
theorem aX.block{W:World}{B:Nat}{v:Value}{zs:List α}(h:aX T k en W B v zs):∀k,v.ownBlock=some k->B<=k:=by
 intro k hk
 rcases h.2 with⟨rfl,_⟩|⟨g,cap,cur,rfl,h2,_⟩
 ·cases hk
 ·cases hk
  exact h2
theorem aX.lt{W:World}{B:Nat}{v:Value}{zs:List α}(h:aX T k en W B v zs):∀g,v.ownBlock=some g->g<W.heap.size:=by
 intro g hg
 rcases h.2 with⟨rfl,_⟩|⟨g',cap,cur,rfl,h1,h2,h3⟩
 ·cases hg
 ·obtain rfl:g'=g:=by injection hg
  rcases Nat.lt_or_ge g' W.heap.size with h7|h7
  ·exact h7
  ·rw[Array.getElem?_eq_none h7]at h2;cases h2
theorem aX.form{W:World}{B:Nat}{v:Value}{zs:List α}(h:aX T k en W B v zs)(hk:∀x:α,(en x).length=k):∃(ad:Option Addr)(cap:Nat),v=.slice ad zs.length cap/\zs.length<=cap/\cap<9223372036854775808/\(ad=none->cap=0)/\
  (0<zs.length->∃g,ad=some ⟨g,0,none⟩/\B<=g/\g<W.heap.size/\∀(i j:Nat)(x:α)(y:Value),zs[i]? =some x->(en x)[j]? =some y->W.cell? ⟨g,i*k+j,none⟩=some y):=by
 rcases h.2 with⟨rfl,h1⟩|⟨g,cap,cur,rfl,h1,h2,h3,h4,h5,h6⟩
 ·exact⟨none,0,by rw[h1],by omega,by decide,λ_=>rfl,λh=>by omega⟩
 ·refine⟨some ⟨g,0,none⟩,cap,rfl,h3,by unfold maxLen at h4;omega,(λe=>by cases e),λ_=>⟨g,rfl,h1,?_,λi j x y hx hy=> ?_⟩⟩
  ·rcases Nat.lt_or_ge g W.heap.size with h7|h7
   ·exact h7
   ·rw[Array.getElem?_eq_none h7]at h2;cases h2
  ·have h7:=World.ownsRow.cells h (g:=g) rfl (i*k+j) y (flat_get (hk:=hk) zs i j x y hx hy)
   have e:(⟨g,0,none⟩:Addr).add (i*k+j)=⟨g,i*k+j,none⟩:=by unfold Addr.add;split<;>simp_all
   rw[e]at h7
   exact h7
theorem aX.sees{W:World}{B:Nat}{v:Value}{zs:List α}(h:aX T k en W B v zs)(hk:∀x:α,(en x).length=k):jc k en W v zs:=by
 rcases h.2 with⟨rfl,h1⟩|⟨g,cap,cur,rfl,h1,h2,h3,h4,h5,h6⟩
 ·have hz:zs=[]:=List.eq_nil_of_length_eq_zero h1
  subst hz
  exact jc.nil
 ·refine⟨some ⟨g,0,none⟩,g,0,cap,rfl,⟨λ_=>rfl,λe=>by cases e⟩,h3,by unfold maxLen at h4;omega,λ_=> ?_,λi j x y hx hy=> ?_⟩
  ·rcases Nat.lt_or_ge g W.heap.size with h7|h7
   ·exact h7
   ·rw[Array.getElem?_eq_none h7]at h2;cases h2
  ·have h7:=World.ownsRow.cells h (g:=g) rfl (i*k+j) y (flat_get (hk:=hk) zs i j x y hx hy)
   have e:(⟨g,0,none⟩:Addr).add (i*k+j)=⟨g,i*k+j,none⟩:=by unfold Addr.add;split<;>simp_all
   rw[e]at h7
   rw[Nat.zero_add]
   exact h7
theorem agz{w:World}{u:Value}{ys:List α}(h:jc k en w u ys)(hk:∀x:α,(en x).length=k):(u=.slice none 0 0/\ys.length=0/\(ys.flatMap en)=[])\/∃ad c,u=.slice (some ad) ys.length c/\∀j y,(ys.flatMap en)[j]? =some y->w.cell? (ad.add j)=some y:=by
 obtain⟨ad,b,off,cap,rfl,⟨h1,h2⟩,h3,h4,h5,h6⟩:=h
 rcases ad with _|ad
 ·have hz:ys=[]:=by
   rcases Nat.eq_zero_or_pos ys.length with e|e
   ·exact List.eq_nil_of_length_eq_zero e
   ·cases h1 e
  subst hz
  rw[h2 rfl]
  exact .inl ⟨rfl,rfl,rfl⟩
 ·refine .inr ⟨ad,cap,rfl,λj y hj=> ?_⟩
  have hjl:j<ys.length*k:=by
   rw[<-Dj (hk:=hk)]
   rcases Nat.lt_or_ge j (ys.flatMap en).length with e|e
   ·exact e
   ·rw[List.getElem?_eq_none e]at hj;cases hj
  have hk0:0<k:=by
   rcases Nat.eq_zero_or_pos k with e|e
   ·subst e;simp at hjl
   ·exact e
  have hi:j/k<ys.length:=(Nat.div_lt_iff_lt_mul hk0).2 hjl
  have hm:j%k<k:=Nat.mod_lt _ hk0
  have hjj:j/k*k+j%k=j:=by rw[Nat.mul_comm];exact Nat.div_add_mod j k
  have hx:ys[j/k]? =some ys[j/k]:=List.getElem?_eq_getElem hi
  have hy:(en ys[j/k])[j%k]? =some y:=by
   have hm2:j%k<(en ys[j/k]).length:=by rw[hk];exact hm
   have:=flat_get (hk:=hk) ys (j/k) (j%k) _ _ hx (List.getElem?_eq_getElem hm2)
   rw[hjj,hj]at this
   rw[List.getElem?_eq_getElem hm2]
   exact this.symm
  have h7:=h1 (Nat.lt_of_le_of_lt (Nat.zero_le _) hi)
  cases h7
  have e:(⟨b,off,none⟩:Addr).add j=⟨b,off+j/k*k+j%k,none⟩:=by
   rw[Nat.add_assoc,hjj]
   unfold Addr.add;split<;>simp_all
  rw[e]
  exact h6 _ _ _ _ hx hy
theorem Fp{P:Program}{ops:Array Oper}{rest:List Oper}{o:Oper}{a:Act}{Q:Exit->Act->World->Prop}(w:World)(hw:Region.wanted o (yielded ops a.tmps)=true)(s x:Operand)(t:TypeId)
  (ho:o.op=.call {callee:=.builtin .append,args:= #[s,x],argTypes:= #[t,t]})
  (hk:∀x:α,(en x).length=k) (h1:∀x:α,∀u∈en x,u.oneCell'=true) (z:Value) (bytes:Nat) (ht:P.underlying t=some (.slice T))
  (hi:(P.info? T).map (λi=>(i.zero,i.size,i.bytes))=some (some z,k,bytes)) (hzs:z.cells.size=k) (hk0:0<k) (hby:bytes<=1000)
  (B:Nat) (v u:Value) (xs ys:List α) (hs:a.eval s=v) (hx:a.eval x=u) (hown:aX T k en w B v xs) (hys:jc k en w u ys) (hbig:xs.length+ys.length<100000000000) (hB:B<=w.heap.size)
  (h:∀v' w',aX T k en w' B v' (xs++ys)->w.grownBy w' v.ownBlock->(v'.ownBlock=v.ownBlock\/v'.ownBlock=some w.heap.size)->wpList P ops Q rest (a.put o.dst v') w'):wpList P ops Q (o::rest) a w:=by
 obtain⟨i0,hi,hz0,hz1,hz2⟩:=info_parts hi
 have hmul:(xs.length+ys.length)*bytes<=100000000000*1000:=Nat.mul_le_mul (by omega) hby
 refine XB w hw s x t ho B T i0 z k bytes ht hi hz0 hz1 hz2 hzs hk0 v xs.length (xs.flatMap en) hs hown u ys.length (ys.flatMap en) hx (agz hys hk) (Dj (hk:=hk) ys) (λu hu=> ?_) (by unfold maxLen;omega) (by omega) hB ?_
 ·obtain⟨x,_,hx2⟩:=List.mem_flatMap.1 hu
  exact h1 x u hx2
 ·intro v' w' h2 h3 h4
  refine h v' w' ?_ h3 h4
  unfold aX
  rw[List.length_append,List.flatMap_append]
  exact h2
theorem lD(w:World)(x:α)(cs:Array Value)(hc:cs.toList=en x)(T':TypeId){m:Nat}(hm:m=w.heap.size):jc k en (w.alloc (.cells cs T')) (.slice (some ⟨m,0,none⟩) 1 1) [x]:=by
 subst hm
 refine⟨some ⟨w.heap.size,0,none⟩,w.heap.size,0,1,rfl,⟨λ_=>rfl,λe=>by cases e⟩,Nat.le_refl _,by decide,λ_=>by simp,λi j x' y hx hy=> ?_⟩
 have hi:i=0:=by
  rcases i with _|i
  ·rfl
  ·simp at hx
 subst hi
 simp at hx
 subst hx
 have:cs[j]? =some y:=by rw[<-hy,<-hc];simp
 simp[this]
theorem jc.at{W:World}{b off n cap:Nat}{zs:List α}(h:jc k en W (.slice (some ⟨b,off,none⟩) n cap) zs){i:Nat}{x:α}(hi:zs[i]? =some x):∀(j:Nat)(y:Value),(en x)[j]? =some y->W.cell? ⟨b,off+i*k+j,none⟩=some y:=by
 obtain⟨ad',b',off',cap',e,⟨h3,h3'⟩,h4,h5,h6,h7⟩:=h
 have hpos:0<zs.length:=by
  rcases Nat.eq_zero_or_pos zs.length with h|h
  ·have:zs=[]:=List.eq_nil_of_length_eq_zero h
   subst this
   simp at hi
  ·exact h
 have e2:=h3 hpos
 subst e2
 cases e
 exactλj y hy=>h7 i j x y hi hy
theorem jc.form{W:World}{v:Value}{zs:List α}(h:jc k en W v zs):∃(ad:Option Addr)(b off cap:Nat),v=.slice ad zs.length cap/\(0<zs.length->ad=some ⟨b,off,none⟩)/\(ad=none->cap=0)/\zs.length<=cap/\cap<9223372036854775808/\(0<zs.length->b<W.heap.size)/\jc k en W (.slice ad zs.length cap) zs:=by
 have h0:=h
 obtain⟨ad,b,off,cap,rfl,⟨h1,h2⟩,h3,h4,h5,h6⟩:=h
 exact⟨ad,b,off,cap,rfl,h1,h2,h3,h4,h5,h0⟩
theorem jc.mk{W:World}{v:Value}{zs:List α}{ad:Option Addr}{b off cap:Nat}(h0:v=.slice ad zs.length cap)(h1:0<zs.length->ad=some ⟨b,off,none⟩)(h2:ad=none->cap=0)(h3:zs.length<=cap)(h4:cap<9223372036854775808)(h5:0<zs.length->b<W.heap.size)
  (h6:∀(i j:Nat)(x:α)(y:Value),zs[i]? =some x->(en x)[j]? =some y->W.cell? ⟨b,off+i*k+j,none⟩=some y):jc k en W v zs:=⟨ad,b,off,cap,h0,⟨h1,h2⟩,h3,h4,h5,h6⟩
end
attribute [irreducible] jc aX
end Go.Proofs.YtlncengggmgdgaaGreat.gr
