/- objects.walk: its deferred closure, and the walk itself. No conditions. -/
import Derived.Test.YtlncengggmgdgaaGreatG22
import Derived.Test.YtlncengggmgdgaaGreatOw
import Derived.Recover
import Derived.RecoverIn
import Derived.RegionIn
import Derived.Defers
import Derived.OwnWalk
import Derived.Maps.AppendAt
import Derived.Laws.AppendOwn
import Derived.RegionTactic
set_option linter.unusedVariables false
set_option linter.unusedSimpArgs false
set_option maxRecDepth 100000
namespace Go.Proofs.YtlncengggmgdgaaGreat.ob
open Go.RowKit Go.Shelf hd rt
attribute [local irreducible] par.ah
attribute [local go_sem] Oper.semAt_some
theorem aeh(W:World):Sem.run (par.ah par.Hm) (binOp .neq 20 .nilIface .nilIface) W=.ok (.bool false) W:=by kernel_rfl
theorem aaP(k:Int)(W:World):Sem.run (par.ah par.Hm) (binOp .neq 20 (.iface 210 (.agg #[.int .i64 k])) .nilIface) W=.ok (.bool true) W:=by kernel_rfl
theorem catch_idle(n:Nat)(p q:Addr)(w:World):
  CallsDIn Fence.wide n (par.ah par.Hm) 143 #[.pointer (some p),.pointer (some q)] .returning w λe u' w'=>e=.returned (.tuple #[])/\u'=.returning/\w'=w:=by
 refine callsDIn_of_wpSIn par.Qm rfl trivial λc₀ cs hu=> ?_
 apply wpSIn_seq
 apply wpSIn_region
 simp[wpOpsSIn,go_sem,recoverD,hu,Tryz.ntmps143,Exit.thenS]
 have hnn:=aeh
 refine wpSIn_of_wpIn rfl ?_
 show Code.wpIn _ _ _ _ _ {tmps:= #[.pointer (some p),.pointer (some q),.nilIface,undef,undef,.nilIface,undef,undef,undef,undef,undef,undef,undef,undef,undef,undef,undef,undef],defers:=[]} w
 gi_wp2
 trace_state
 exact⟨rfl,.returning,by cases c₀;simp_all,_,results_none rfl _ _ _,rfl,rfl,rfl⟩
theorem Ht(k:Int)(W:World):Sem.run (par.ah par.Hm) (Instr.typeAssert (.iface 210 (.agg #[.int .i64 k])) 20 210 true) W=.ok (.tuple #[.agg #[.int .i64 k],.bool true]) W:=by kernel_rfl
structure oP(p q:Nat)(w w':World):Prop where
 os:w'.os=w.os
 tape:w'.tape=w.tape
 output:w'.output=w.output
 size:w.heap.size<=w'.heap.size
 block:∀k,k<w.heap.size->k≠p->k≠q->w'.heap[k]? =w.heap[k]?
theorem oP.refl(p q:Nat)(w:World):oP p q w w:=⟨rfl,rfl,rfl,Nat.le_refl _,λ_ _ _ _=>rfl⟩
theorem oP.alloc{p q:Nat}{a w:World}(h:oP p q a w)(o:Obj):oP p q a (w.alloc o):=
 ⟨h.os,h.tape,h.output,by have:=h.size;simp;omega,λk hk h1 h2=>(Below.heap_alloc w o k (Nat.lt_of_lt_of_le hk h.size)).trans (h.block k hk h1 h2)⟩
theorem oP.drew{p q:Nat}{a w:World}(h:oP p q a w):oP p q a w.drew:=⟨h.os,h.tape,h.output,h.size,h.block⟩
theorem oP.set{p q:Nat}{a w:World}(h:oP p q a w)(b:Addr)(hb:b.block=p\/b.block=q\/a.heap.size<=b.block)(v:Value):oP p q a (w.setCell b v):=
 ⟨h.os,h.tape,h.output,by simpa using h.size,λk hk h1 h2=>(Below.heap_setCell w b v k (by omega)).trans (h.block k hk h1 h2)⟩
set_option maxHeartbeats 4000000 in
theorem Hu(n:Nat)(p q:Nat)(x y:Value)(k:Int)(w:World)(hp:aW w p #[x] 28)(hq:aW w q #[y] 36)(hpq:p≠q):
  CallsDIn Fence.wide n (par.ah par.Hm) 143 #[.pointer (some ⟨p,0,none⟩),.pointer (some ⟨q,0,none⟩)] (.panicking [{v:=rV k,recovered:=false}]) w λe u' w'=>e=.returned (.tuple #[])/\u'=.panicking [{v:=rV k,recovered:=true}]/\aW w' p #[.slice none 0 0] 28/\aW w' q #[.int .i64 k] 36/\oP p q w w':=by
 refine callsDIn_of_wpSIn par.Qm rfl trivial λc₀ cs hu=> ?_
 unfold rV at*
 obtain⟨lp,cp,fp⟩:=hp.get
 obtain⟨lq,cq,fq⟩:=hq.get
 have cp0:=cp 0
 have cq0:=cq 0
 apply wpSIn_seq
 apply wpSIn_region
 simp[wpOpsSIn,go_sem,recoverD,hu,Tryz.ntmps143,Exit.thenS]
 have hnn:=aaP k
 refine wpSIn_of_wpIn rfl ?_
 show Code.wpIn _ _ _ _ _ {tmps:= #[.pointer (some ⟨p,0,none⟩),.pointer (some ⟨q,0,none⟩),.iface 210 (.agg #[.int .i64 k]),undef,undef,.iface 210 (.agg #[.int .i64 k]),undef,undef,undef,undef,undef,undef,undef,undef,undef,undef,undef,undef],defers:=[]} w
 have hta:=Ht k
 have hn0:p≠w.heap.size:=by omega
 have hn1:q≠w.heap.size:=by omega
 have hn2:q≠p:=λe=>hpq e.symm
 have hn3:w.heap.size≠p:=by omega
 have hn4:w.heap.size≠q:=by omega
 gi_wp2
 gi_region
 gi_wp2
 refine⟨rfl,_,rfl,_,results_none rfl _ _ _,rfl,rfl,?_,?_,?_⟩
 ·exact(((hp.set 0 (.slice none 0 0)).other (p:=⟨q,0,none⟩) hpq _).alloc _).drew
 ·exact(((hq.other (p:=⟨p,0,none⟩) hn2 (.slice none 0 0)).set 0 (.int .i64 k)).alloc _).drew
 ·exact((((oP.refl p q w).set ⟨p,0,none⟩ (.inl rfl) _).set ⟨q,0,none⟩ (.inr (.inl rfl)) _).alloc _).drew
theorem XF(sv gv:Value)(w:World)(hg:gv=.nilFunc\/∃f a c,gv=.func f a c)(hs:∃a l c,sv=.slice a l c):
  Calls (par.ah par.Hm) 144 #[sv,gv] w λe w'=>e=.returned (.func (.func 173) #[] #[.pointer (some ⟨w.heap.size,0,none⟩),.pointer (some ⟨w.heap.size+1,0,none⟩)])/\w'=(w.alloc (.cells #[sv] 32)).alloc (.cells #[gv] 208):=by
 have hmf:∀(fn:Fn)(first cap:Array Value)(w:World),(Instr.makeFunc fn first cap).run (par.ah par.Hm) w=.ok (.func fn first cap) w:=λ_ _ _ _=>rfl
 obtain⟨a,l,c,rfl⟩:=hs
 rcases hg with rfl|⟨f,a2,c2,rfl⟩
 ·go_enter (par.P9 (H:=par.Hm)),Tryz.ntmps144
  go_wp2_with fail
  go_ret
  exact⟨rfl,rfl⟩
 ·go_enter (par.P9 (H:=par.Hm)),Tryz.ntmps144
  go_wp2_with fail
  go_ret
  exact⟨rfl,rfl⟩
def fF(o:Ob):List Value:=[.int .i64 o.pos,.int .i64 o.s,.int .i64 o.p,.bool o.g,.int .u64 o.t]
def xq:List Ob->List Value
 |[]=>[]
 |o::l=>fF o++xq l
theorem Ol(l:List Ob)(o:Ob):xq (l++[o])=xq l++fF o:=by
 induction l with
 |nil=>simp[xq]
 |cons a l ih=>simp[xq,ih]
def rX(W:World)(B:Nat)(v:Value)(l:List Ob):Prop:=W.ownsRow B 56 5 v l.length (xq l)
theorem aaQ:((par.ah par.Hm).info? 56).map (λi=>(i.zero,i.size,i.bytes))=some (some (.agg #[.int .i64 0,.int .i64 0,.int .i64 0,.bool false,.int .u64 0]),5,40):=by kernel_rfl
structure xu(w:World)(row:Option Nat)(xs:List Ob)(W:World):Prop where
 l:∃v,aW W w.heap.size #[v] 28/\rX W (w.heap.size+6) v xs
 e:aW W (w.heap.size+1) #[.int .i64 0] 36
 g:w.grownBy W row
theorem xu.grown{w:World}{row:Option Nat}(hrow:∀r,row=some r->r<w.heap.size){xs:List Ob}{A B:World}(h:xu w row xs A)(hg:A.grownBy B row):xu w row xs B:=by
 obtain⟨⟨v,h1,h2⟩,h3,h4⟩:=h
 have hne:∀k,w.heap.size<=k->some k≠row:=λk hk e=>by have:=hrow k e.symm;omega
 refine⟨⟨v,aW.of ((hg.block _ h1.lt (hne _ (Nat.le_refl _))).trans h1.raw),World.ownsRow.kept h2 hg ?_⟩,aW.of ((hg.block _ h3.lt (hne _ (by omega))).trans h3.raw),h4.trans hg⟩
 rcases hv:v.ownBlock with _|k
 ·exact .inl rfl
 ·exact .inr (hne k (by have:=(World.ownsRow.lt h2 k hv).1;omega))
theorem xu.put{w:World}{row:Option Nat}{xs:List Ob}{A:World}(h:xu w row xs A){l:Nat}{o:Obj}(o':Obj)(hl:w.heap.size+4<=l)(ho:A.heap[l]? =some o)(hc:o.isCells=false):xu w row xs (A.putObj l o'):=by
 obtain⟨⟨v,h1,h2⟩,h3,h4⟩:=h
 have hg:=grownBy_putObj' A l o'
 refine⟨⟨v,aW.of ((World.putObj_heap_other (by omega)).trans h1.raw),World.ownsRow.kept h2 hg ?_⟩,aW.of ((World.putObj_heap_other (by omega)).trans h3.raw),⟨h4.os,h4.tape,h4.output,by simpa using h4.size,λk hk hne=>(World.putObj_heap_other (by omega)).trans (h4.block k hk hne)⟩⟩
 rcases hv:v.ownBlock with _|k
 ·exact .inl rfl
 ·refine .inr (λe=> ?_)
  cases e
  rcases h2.2 with⟨rfl,_⟩|⟨g,cap,cur,rfl,_,hgg,_⟩
  ·simp[Value.ownBlock]at hv
  ·simp[Value.ownBlock]at hv
   subst hv
   rw[ho]at hgg;cases hgg;cases hc
end Go.Proofs.YtlncengggmgdgaaGreat.ob
namespace Go.Proofs.YtlncengggmgdgaaGreat.ob
open Go.RowKit Go.Shelf hd rt
attribute [local irreducible] par.ah
attribute [local go_sem] Oper.semAt_some
theorem aW.putObj{w:World}{n l:Nat}{cs:Array Value}{T:TypeId}(h:aW w n cs T)(hl:n≠l)(o:Obj):aW (w.putObj l o) n cs T:=aW.of ((World.putObj_heap_other hl).trans h.raw)
theorem _root_.Go.World.grownBy.over{w A B:World}{row r:Option Nat}(h:w.grownBy A row)(k:A.grownBy B r)(hr:∀j,r=some j->w.heap.size<=j):w.grownBy B row:=
 ⟨k.os.trans h.os,k.tape.trans h.tape,k.output.trans h.output,Nat.le_trans h.size k.size,λi hi hne=>(k.block i (Nat.lt_of_lt_of_le hi h.size) (λe=>by have:=hr i e.symm;omega)).trans (h.block i hi hne)⟩
theorem aaR(w:World)(o:Ob)(T:TypeId):∀j u,(fF o)[j]? =some u->(w.alloc (.cells #[.int .i64 o.pos,.int .i64 o.s,.int .i64 o.p,.bool o.g,.int .u64 o.t] T)).cell? ((⟨w.heap.size,0,none⟩:Addr).add j)=some u:=by
 intro j u hj
 have e:(⟨w.heap.size,0,none⟩:Addr).add j=⟨w.heap.size,j,none⟩:=by unfold Addr.add;split<;>simp_all
 rw[e,World.cell?_alloc_new,<-hj]
 simp[fF]
theorem xu.two{w:World}{row:Option Nat}(hrow:∀r,row=some r->r<w.heap.size){xs:List Ob}{A B:World}(h:xu w row xs A)(hg:A.grownBy B row):
  ∃v,(∀k,v.ownBlock=some k->w.heap.size+6<=k/\k<A.heap.size)/\aW B w.heap.size #[v] 28/\rX B (w.heap.size+6) v xs/\aW B (w.heap.size+1) #[.int .i64 0] 36/\w.grownBy B row:=by
 obtain⟨⟨v,h1,h2⟩,h3,h4⟩:=h
 have hne:∀k,w.heap.size<=k->some k≠row:=λk hk e=>by have:=hrow k e.symm;omega
 refine⟨v,λk hk=>World.ownsRow.lt h2 k hk,aW.of ((hg.block _ h1.lt (hne _ (Nat.le_refl _))).trans h1.raw),World.ownsRow.kept h2 hg ?_,aW.of ((hg.block _ h3.lt (hne _ (by omega))).trans h3.raw),h4.trans hg⟩
 rcases hv:v.ownBlock with _|k
 ·exact .inl rfl
 ·exact .inr (hne k (by have:=(World.ownsRow.lt h2 k hv).1;omega))
theorem yN{w W:World}{row:Option Nat}(h:w.grownBy W row){l:Nat}(hl:w.heap.size<=l)(o:Obj):w.grownBy (W.putObj l o) row:=
 ⟨h.os,h.tape,h.output,by simpa using h.size,λk hk hne=>(World.putObj_heap_other (by omega)).trans (h.block k hk hne)⟩
theorem aaS{W:World}{B l:Nat}{v:Value}{xs:List Ob}(h:rX W B v xs)(hl:∃ob,W.heap[l]? =some ob/\ob.isCells=false)(o:Obj):rX (W.putObj l o) B v xs:=by
 refine World.ownsRow.kept h (grownBy_putObj' W l o) ?_
 rcases hv:v.ownBlock with _|k
 ·exact .inl rfl
 ·refine .inr (λe=> ?_)
  cases e
  obtain⟨ob,ho,hc⟩:=hl
  rcases h.2 with⟨rfl,_⟩|⟨g,cap,cur,rfl,_,hgg,_⟩
  ·simp[Value.ownBlock]at hv
  ·simp[Value.ownBlock]at hv
   subst hv
   rw[ho]at hgg;cases hgg;cases hc
def XG(w:World)(St:Nat->World->Prop)(r:Res)(e:Ending)(W':World):Prop:=
 match r with
 | .ok l k=>St k W'/\∃v,e=.returned (.tuple #[v,.int .i64 0])/\rX W' (w.heap.size+6) v l
 | .err c k=>St k W'/\e=.returned (.tuple #[.slice none 0 0,.int .i64 c])
set_option maxHeartbeats 4000000 in
theorem walk_any(b off len cap:Nat)(ad:Option Addr)(zs:List Int)(gv:Value)(St:Nat->World->Prop)(bg:Nat->Nat->Int->Option (Ob×Nat))(row:Option Nat)(hok:Hq b off len cap zs gv St bg row)
  (had:0<len->ad=some ⟨b,off,none⟩) (hlc:len<=cap) (hcap:cap<9223372036854775808/\len<1000000000000) (hz:∀i,0<=zs.getD i 0/\zs.getD i 0<18446744073709551616)
  (hgv:gv=.nilFunc\/∃f a c,gv=.func f a c) (w:World) (hW:dV w b off len zs) (hSt:St 0 w) (hrow:∀r,row=some r->r<w.heap.size/\r≠b)
  (TA:∀k A B,St k A->(∀j,j<w.heap.size->B.heap[j]? =A.heap[j]?)->St k B):
  Calls (par.ah par.Hm) 126 #[.slice ad len cap,gv] w λe W'=>w.grownBy W' row/\XG w St (iL bg zs len (len+1) 0 0 []) e W':=by
 obtain⟨i0,hi,hz0,hz1,hz2⟩:=info_parts aaQ
 have hmf:∀(fn:Fn)(first cap:Array Value)(w:World),(Instr.makeFunc fn first cap).run (par.ah par.Hm) w=.ok (.func fn first cap) w:=λ_ _ _ _=>rfl
 refine(callsIn_wide (n:=5)).1 ?_
 refine callsIn_of_wp_marks (par.ZX (H:=par.Hm)) rfl trivial ?_ rfl
 simp only[Tryz.ntmps126,List.size_toArray,List.length_cons,List.length_nil,Nat.reduceAdd,Nat.reduceSub,Array.replicate_succ,Array.replicate_zero,List.push_toArray,List.append_toArray,List.nil_append,List.cons_append]
 gi_wp2_with fail
 refine⟨trivial,(callsIn_wide.2 (XF _ _ _ hgv ⟨_,_,_,rfl⟩)).mono ?_⟩
 rintro e w1 ⟨rfl,rfl⟩
 gi_wp2_with fail
 obtain⟨W0,hW0⟩:∃W0,((((w.alloc (.cells #[.slice none 0 0] 28)).alloc (.cells #[.int .i64 0] 36)).alloc (.cells #[.slice ad len cap] 32)).alloc (.cells #[gv] 208))=W0:=⟨_,rfl⟩
 rw[hW0]
 have hB0:Below w.heap.size w W0:=by rw[<-hW0];exact bm
 have b0:aW W0 w.heap.size #[.slice none 0 0] 28:=by rw[<-hW0];exact(((aW.new _ _ _).alloc _).alloc _).alloc _
 have b1:aW W0 (w.heap.size+1) #[.int .i64 0] 36:=by rw[<-hW0];exact((aW.mk (by simp)).alloc _).alloc _
 have b2:aW W0 (w.heap.size+1+1) #[.slice ad len cap] 32:=by rw[<-hW0];exact(aW.mk (by simp)).alloc _
 have b3:aW W0 (w.heap.size+1+1+1) #[gv] 208:=by rw[<-hW0];exact aW.mk (by simp)
 have hsz:W0.heap.size=w.heap.size+4:=by rw[<-hW0];simp
 clear hW0
 have hrow1:∀r,row=some r->r<w.heap.size:=λr e=>(hrow r e).1
 have hE:nZ b off len cap zs gv (.slice ad len cap) St (w.heap.size+1+1) (w.heap.size+1+1+1) 0 W0:=by
  refine⟨?_,TA _ _ _ hSt hB0.block,b2,b3⟩
  rcases Nat.eq_zero_or_pos len with h|h
  ·subst h;exact dV.none _ _ _ _
  ·exact hW.block (hB0.block b (hW.lt h))
 refine qK (w:=W0) rfl (by omega) (gf:=173) (lb:= #[.pointer (some ⟨w.heap.size+1+1,0,none⟩),.pointer (some ⟨w.heap.size+1+1+1,0,none⟩)]) rfl trivial (enters_of (par.GK (H:=par.Hm)) (by kernel_rfl) rfl)
  (λr e=>by have:=hrow1 r e;omega)
  (Hr 4 (by omega) b off len cap ad zs gv St bg row hok had hlc (by omega) hz (λS hS=>by omega) W0 w.heap.size (w.heap.size+1+1) (w.heap.size+1+1+1) (by omega) (by omega) (λh=>by have:=hW.lt h;omega) (λr e=>by have:=hrow r e;exact⟨by omega,by omega,this.2⟩) ?aef hE)
  (λ_=>rfl) (xu w row) (λs A B h hg=>h.grown hrow1 hg) (λs A l o o' h hl ho hc=>h.put o' (by omega) ho hc) ?hSp ?h0 ?Oh ?hdone ?Hl
 case aef=>
  intro k A W1 W' hs h hk
  exact TA _ _ _ h λj hj=>hk.2 j (by omega) (.inl ⟨by omega,by omega⟩)
 case hSp=>
  rintro s A l o o' ⟨k,h1,h2⟩ hl ho hc
  exact⟨k,h1,TA _ _ _ h2 λj hj=>World.putObj_heap_other (by omega)⟩
 case h0=>exact⟨⟨_,b0,World.ownsRow_nil _ _ _ _⟩,b1,below_grown hB0 row⟩
 case Oh=>
  intro pre x A W1 hIA hlen hszA hg hnD hnL
  obtain⟨v,hown0,hl,hrw,he,hgg⟩:=hIA.two hrow1 hg
  rw[hsz]at hszA hnD hnL⊢
  obtain⟨p0,s,p,g,t⟩:=x
  simp only[oV]
  gi_wp2
  refine⟨?_,?_,λo Wb UE=> ?_⟩
  ·exact Below.heap_alloc _ _ _ (by have:=hg.size;omega)
  ·exact Below.heap_alloc _ _ _ (by have:=hg.size;omega)
  have hlb:aW Wb w.heap.size #[v] 28:=by rw[UE];exact aW.putObj (hl.alloc _) (by omega) _
  have hxb:aW Wb W1.heap.size #[.int .i64 p0,.int .i64 s,.int .i64 p,.bool g,.int .u64 t] 56:=by rw[UE];exact aW.putObj (aW.new _ _ _) (by have:=hg.size;omega) _
  have hI2:w.grownBy Wb row:=by rw[UE];exact yN (Oj hgg _) (by omega) _
  have hrb:rX Wb (w.heap.size+6) v pre:=by rw[UE];exact aaS (World.ownsRow.alloc hrw _) (by obtain⟨ob,h1,h2⟩:=hnL;exact⟨ob,(Below.heap_alloc _ _ _ (Array.getElem?_eq_some_iff.1 h1).1).trans h1,h2⟩) _
  have heb:aW Wb (w.heap.size+1) #[.int .i64 0] 36:=by rw[UE];exact aW.putObj (he.alloc _) (by omega) _
  have aei:Wb.heap.size=W1.heap.size+1:=by rw[UE];simp
  have hbk:Hid (∀k,k<W1.heap.size->k≠w.heap.size+4+1->Wb.heap[k]? =W1.heap[k]?):=λk hk hne=>by rw[UE];exact(World.putObj_heap_other hne).trans (Below.heap_alloc _ _ _ hk)
  clear UE
  obtain⟨ll,cl,fl⟩:=hlb.get
  obtain⟨lx,cx,fx⟩:=hxb.get
  have cl0:=cl 0
  obtain⟨va,vn,vc,rfl⟩:∃a n c,v=.slice a n c:=by
   rcases hrw.2 with⟨rfl,_⟩|⟨g,cap,cur,rfl,_⟩
   ·exact⟨_,_,_,rfl⟩
   ·exact⟨_,_,_,rfl⟩
  have ab5:=Lib.hid aei
  clear aei
  gi_wp2_with (first|(gi_at_builtin;refine wpListIn_append_own _ rfl _ _ 28 rfl (w.heap.size+6) 56 i0 _ 5 40 ((par.aB par.Hm 28).trans Tryz.underlying28) hi hz0 hz1 hz2 rfl (by decide) _ _ _ rfl (World.ownsRow.alloc hrb _) ⟨Wb.heap.size,0,none⟩ 1 1 (fF ⟨p0,s,p,g,t⟩) rfl rfl ?c0 ?c1 ?c2 ?c3 ?c4 ?_))
  case c0=>exact aaR _ _ _
  case c1=>intro u hu;simp[fF]at hu;rcases hu with rfl|rfl|rfl|rfl|rfl<;>rfl
  case c2=>unfold maxLen;omega
  case c3=>omega
  case c4=>have:=ab5.out;have:=hg.size;simp;omega
  intro v' w2 hown hgrow hnil
  obtain⟨g',cap',rfl⟩:=ownsRow_succ hown
  have hne:∀k,(k<w.heap.size+6\/A.heap.size<=k)->some k≠(Value.slice va vn vc).ownBlock:=λk hk e=>by have:=hown0 k e.symm;omega
  have hl2:aW w2 w.heap.size #[.slice va vn vc] 28:=aW.of ((hgrow.block _ (by simp;omega) (hne _ (by omega))).trans (hlb.alloc _).raw)
  have he2:aW w2 (w.heap.size+1) #[.int .i64 0] 36:=aW.of ((hgrow.block _ (by have:=heb.lt;simp;omega) (hne _ (by omega))).trans (heb.alloc _).raw)
  have hg2:w.grownBy w2 row:=(Oj hI2 _).over hgrow (λk e=>by have:=hown0 k e;omega)
  have hH:=Lib.hid hgrow
  have hH2:=Lib.hid hown
  have hH3:=Lib.hid hne
  clear ll cl fl lx cx fx cl0 hgrow hown hnil hne
  obtain⟨ll,cl,fl⟩:=hl2.get
  have cl0:=cl 0
  gi_wp2
  have hgrow:=hH.out
  have hne:=hH3.out
  have hbk':=hbk.out
  have aei:=ab5.out
  have hgs:=hg.size
  have keep:∀k,k<Wb.heap.size->k≠w.heap.size->(k<w.heap.size+6\/A.heap.size<=k)->(w2.setCell ⟨w.heap.size,0,none⟩ (.slice (some ⟨g',0,none⟩) (pre.length+1) cap')).heap[k]? =Wb.heap[k]? :=λk hk h1 h2=>
   (Below.heap_setCell _ _ _ k h1).trans ((hgrow.block k (by simp;omega) (hne k h2)).trans (Below.heap_alloc _ _ _ hk))
  refine⟨keep _ (by omega) (by omega) (by omega),keep _ (by omega) (by omega) (by omega),⟨?_,λk hk hor=> ?_⟩,⟨⟨_,hl2.set 0 _,?_⟩,he2.other (by simp) _,?_⟩⟩
  ·have:=hgrow.size;simp at this⊢;omega
  ·rcases hor with⟨h1,h2⟩|h1
   ·exact(keep k (by omega) h2 (by omega)).trans (hbk' k hk (by omega))
   ·exact(keep k (by omega) (by omega) (.inr h1)).trans (hbk' k hk (by omega))
  ·have h7:=World.ownsRow.kept hH2.out (grownBy_setCell' w2 w.heap.size (.slice (some ⟨g',0,none⟩) (pre.length+1) cap')) (.inr (λe=>by have:=(World.ownsRow.lt hH2.out w.heap.size e).1;omega))
   unfold rX
   rw[Ol,List.length_append]
   exact h7
  ·exact hg2.over (grownBy_setCell' w2 w.heap.size _) (λk e=>by cases e;exact Nat.le_refl _)
 case hdone=>
  rintro xs W ⟨k,hr,hst⟩ ⟨⟨v,hl,hrw⟩,he,hgg⟩ hK
  obtain⟨va,vn,vc,rfl⟩:∃a n c,v=.slice a n c:=by
   rcases hrw.2 with⟨rfl,_⟩|⟨g,cap,cur,rfl,_⟩
   ·exact⟨_,_,_,rfl⟩
   ·exact⟨_,_,_,rfl⟩
  rw[hsz]at hK⊢
  dsimp only
  have hne1:w.heap.size≠w.heap.size+1:=by omega
  have hne2:w.heap.size+1≠w.heap.size:=by omega
  have hHr:=Lib.hid hr
  have hHK:=Lib.hid hK
  obtain⟨ll,cl,fl⟩:=hl.get
  obtain⟨le,ce,fe⟩:=he.get
  have cl0:=cl 0
  have ce0:=ce 0
  clear hr hK
  gi_wp2
  have hK2:((W.setCell ⟨w.heap.size,0,none⟩ (.slice va vn vc)).setCell ⟨w.heap.size+1,0,none⟩ (.int .i64 0)).heap[w.heap.size+4]? =some (.deferred (some [])):=
   (Below.heap_setCell _ _ _ _ (by simp)).trans ((Below.heap_setCell _ _ _ _ (by simp)).trans hHK.out)
  refine⟨by simp,.inl ⟨_,_,rfl,run_takeDeferred hK2,?_⟩⟩
  refine⟨by simp,.inr ⟨λ_=>by omega,_,_,143,#[.pointer (some ⟨w.heap.size,0,none⟩),.pointer (some ⟨w.heap.size+1,0,none⟩)],rfl,by simp[invoke,go_sem],λ_ _=>trivial,(catch_idle _ _ _ _).mono ?_⟩⟩
  rintro e u' w'' ⟨rfl,rfl,rfl⟩
  have gl:aW (((W.setCell ⟨w.heap.size,0,none⟩ (.slice va vn vc)).setCell ⟨w.heap.size+1,0,none⟩ (.int .i64 0)).putObj (w.heap.size+4) (.deferred none)) w.heap.size #[.slice va vn vc] 28:=aW.putObj ((hl.set 0 _).other (by simp) _) (by omega) _
  have ge:aW (((W.setCell ⟨w.heap.size,0,none⟩ (.slice va vn vc)).setCell ⟨w.heap.size+1,0,none⟩ (.int .i64 0)).putObj (w.heap.size+4) (.deferred none)) (w.heap.size+1) #[.int .i64 0] 36:=aW.putObj ((he.other (by simp) _).set 0 _) (by omega) _
  have gg:w.grownBy (((W.setCell ⟨w.heap.size,0,none⟩ (.slice va vn vc)).setCell ⟨w.heap.size+1,0,none⟩ (.int .i64 0)).putObj (w.heap.size+4) (.deferred none)) row:=
   yN ((hgg.over (grownBy_setCell' _ _ _) (λk e=>by cases e;omega)).over (grownBy_setCell' _ _ _) (λk e=>by cases e;omega)) (by omega) _
  have gs:St k (((W.setCell ⟨w.heap.size,0,none⟩ (.slice va vn vc)).setCell ⟨w.heap.size+1,0,none⟩ (.int .i64 0)).putObj (w.heap.size+4) (.deferred none)):=TA _ _ _ hst λj hj=>
   (World.putObj_heap_other (by omega)).trans ((Below.heap_setCell _ _ _ _ (by show j≠w.heap.size+1;omega)).trans (Below.heap_setCell _ _ _ _ (by show j≠w.heap.size;omega)))
  have go:rX (((W.setCell ⟨w.heap.size,0,none⟩ (.slice va vn vc)).setCell ⟨w.heap.size+1,0,none⟩ (.int .i64 0)).putObj (w.heap.size+4) (.deferred none)) (w.heap.size+6) (.slice va vn vc) xs:=by
   have hb:∀k,(Value.slice va vn vc).ownBlock=some k->w.heap.size+6<=k:=λk hk=>(World.ownsRow.lt hrw k hk).1
   refine World.ownsRow.kept (World.ownsRow.kept (World.ownsRow.kept hrw (grownBy_setCell' _ _ _) (.inr λe=> ?_)) (grownBy_setCell' _ _ _) (.inr λe=> ?_)) (grownBy_putObj' _ _ _) (.inr λe=> ?_)
   ·have:=hb _ e;omega
   ·have:=hb _ e;omega
   ·have:=hb _ e;omega
  generalize(((W.setCell ⟨w.heap.size,0,none⟩ (.slice va vn vc)).setCell ⟨w.heap.size+1,0,none⟩ (.int .i64 0)).putObj (w.heap.size+4) (.deferred none))=Z at*
  obtain⟨zl,zc,zf⟩:=gl.get
  obtain⟨yl,yc,yf⟩:=ge.get
  have zc0:=zc 0
  have yc0:=yc 0
  refine⟨.tuple #[.slice va vn vc,.int .i64 0],by simp only[results,Tryz.results126];go_simp,gg,?_⟩
  rw[hHr.out]
  exact⟨gs,_,rfl,go⟩
 case Hl=>
  rintro chain pre W ⟨c,k,hr,rfl,hst⟩ ⟨⟨v,hl,hrw⟩,he,hgg⟩ hK
  rw[hsz]at hK⊢
  dsimp only
  have hHr:=Lib.hid hr
  have hHK:=Lib.hid hK
  clear hr hK
  gi_wp2
  refine⟨by simp,.inl ⟨_,_,rfl,run_takeDeferred hHK.out,?_⟩⟩
  have gl:=aW.putObj hl (l:=w.heap.size+4) (by omega) (.deferred none)
  have ge:=aW.putObj he (l:=w.heap.size+4) (by omega) (.deferred none)
  have gg:=yN hgg (l:=w.heap.size+4) (by omega) (.deferred none)
  have gs:St k (W.putObj (w.heap.size+4) (.deferred none)):=TA _ _ _ hst λj hj=>World.putObj_heap_other (by omega)
  generalize W.putObj (w.heap.size+4) (.deferred none)=Z at*
  refine⟨by simp,.inr ⟨λ_=>by omega,_,_,143,#[.pointer (some ⟨w.heap.size,0,none⟩),.pointer (some ⟨w.heap.size+1,0,none⟩)],rfl,by simp[invoke,go_sem],λ_ _=>trivial,(Hu _ _ _ _ _ _ _ gl ge (by omega)).mono ?_⟩⟩
  rintro e u' w'' ⟨rfl,rfl,ql,qe,qk⟩
  obtain⟨zl,zc,zf⟩:=ql.get
  obtain⟨yl,yc,yf⟩:=qe.get
  have zc0:=zc 0
  have yc0:=yc 0
  refine⟨.tuple #[.slice none 0 0,.int .i64 c],by simp only[results,Tryz.results126];go_simp,?_,?_⟩
  ·exact⟨qk.os.trans gg.os,qk.tape.trans gg.tape,qk.output.trans gg.output,Nat.le_trans gg.size qk.size,λi hi hne=>(qk.block i (Nat.lt_of_lt_of_le hi gg.size) (by omega) (by omega)).trans (gg.block i hi hne)⟩
  ·rw[hHr.out]
   exact⟨TA _ _ _ gs λj hj=>qk.block j (Nat.lt_of_lt_of_le hj gg.size) (by omega) (by omega),rfl⟩
end Go.Proofs.YtlncengggmgdgaaGreat.ob
namespace Go.Proofs.YtlncengggmgdgaaGreat.ob
open Go.RowKit Go.Shelf hd rt
attribute [local irreducible] par.ah
def TB(k pos:Nat)(x:Int):Option (Ob×Nat):=if oO x then some (⟨pos,Qn x,Xp x,false,0⟩,k)else none
theorem TD{x:Int}(h:oO x=true):0<=Qn x/\Qn x<=255:=by
 have h2:=h
 simp only[oO,fU,Bool.and_eq_true,decide_eq_true_eq]at h2
 simp only[Qn,h,if_true]
 omega
theorem Oo(b off len cap:Nat)(zs:List Int)(hl:len<9223372036854775808)(hz:∀i,0<=zs.getD i 0/\zs.getD i 0<18446744073709551616):
  Hq b off len cap zs .nilFunc (λ_ _=>True) TB none:=by
 refine⟨λ_ _ _ _ _=>trivial,λk pos x o k' h=> ?_,λk pos W hp _ hw=> ?_⟩
 ·unfold TB at h
  split at h
  ·rename_i hu
   cases h
   exact⟨rfl,TD hu⟩
  ·cases h
 ·refine(Tm b off len cap pos _ W hp hl (hw.at pos hp) (hz pos).1 (hz pos).2).mono ?_
  rintro e W' ⟨h,hb⟩
  refine⟨below_grown hb none,?_⟩
  rcases h with⟨hu,rfl⟩|⟨hu,rfl⟩
  ·exact .inl ⟨_,k,by unfold TB;rw[if_pos hu],rfl,trivial⟩
  ·exact .inr ⟨by unfold TB;rw[if_neg (by rw[hu];simp)],rfl,trivial⟩
theorem grown_below{A B:World}(h:A.grownBy B none):Below A.heap.size A B:=⟨h.os,h.tape,h.output,h.size,λk hk=>h.block k hk (by simp)⟩
def Ky(B:Nat)(r:Res)(e:Ending)(W':World):Prop:=
 match r with
 | .ok l k=>∃v,e=.returned (.tuple #[v,.int .i64 0])/\rX W' B v l
 | .err c k=>e=.returned (.tuple #[.slice none 0 0,.int .i64 c])
theorem XH(b off len cap:Nat)(ad:Option Addr)(zs:List Int)(had:0<len->ad=some ⟨b,off,none⟩)(hlc:len<=cap)(hcap:cap<9223372036854775808/\len<1000000000000)(hz:∀i,0<=zs.getD i 0/\zs.getD i 0<18446744073709551616)(w:World)(hW:dV w b off len zs):
  Calls (par.ah par.Hm) 92 #[.slice ad len cap] w λe W'=>Ky (w.heap.size+6) (iL TB zs len (len+1) 0 0 []) e W'/\Below w.heap.size w W':=by
 have hwk:=walk_any b off len cap ad zs .nilFunc (λ_ _=>True) TB none (Oo b off len cap zs (by omega) hz) had hlc hcap hz (.inl rfl) w hW trivial (λr e=>by cases e) (λ_ _ _ _ _=>trivial)
 rcases hr:iL TB zs len (len+1) 0 0 []with⟨l,k⟩|⟨c,k⟩
 ·rw[hr]at hwk
  have HW:=Lib.hid hwk
  clear hwk hr hW hz
  go_enter (par.WT (H:=par.Hm)),Tryz.ntmps92
  go_wp2_with fail
  refine HW.out.mono ?_
  rintro e W' ⟨hg,_,v,rfl,ho⟩
  go_wp2_with fail
  go_ret2
  exact⟨⟨v,rfl,ho⟩,grown_below hg⟩
 ·rw[hr]at hwk
  have HW:=Lib.hid hwk
  clear hwk hr hW hz
  go_enter (par.WT (H:=par.Hm)),Tryz.ntmps92
  go_wp2_with fail
  refine HW.out.mono ?_
  rintro e W' ⟨hg,_,rfl⟩
  go_wp2_with fail
  go_ret2
  exact⟨rfl,grown_below hg⟩
end Go.Proofs.YtlncengggmgdgaaGreat.ob
namespace Go.Proofs.YtlncengggmgdgaaGreat.ob
open Go.RowKit Go.Shelf hd rt
attribute [local irreducible] par.ah
end Go.Proofs.YtlncengggmgdgaaGreat.ob
namespace Go.Proofs.YtlncengggmgdgaaGreat.ob
open Go.RowKit hd
attribute [local irreducible] par.ah
theorem Kz{A:World}{b off len:Nat}{zs:List Int}(h:∀i,i<len->A.cell? ⟨b,off+i,Option.none⟩=some (.int .u64 (zs.getD i 0))):dV A b off len zs:=by unfold dV;exact h
def Dl(l:List Ob)(i:Nat):Ob:=l.getD i ⟨0,0,0,false,0⟩
def fZ(W:World)(b off len:Nat)(l:List Ob):Prop:=∀i,i<len->W.cell? ⟨b,off+i*5,none⟩=some (.int .i64 (Dl l i).pos)/\W.cell? ⟨b,off+i*5+1,none⟩=some (.int .i64 (Dl l i).s)/\W.cell? ⟨b,off+i*5+2,none⟩=some (.int .i64 (Dl l i).p)/\W.cell? ⟨b,off+i*5+3,none⟩=some (.bool (Dl l i).g)/\W.cell? ⟨b,off+i*5+4,none⟩=some (.int .u64 (Dl l i).t)
theorem fZ.block{A B:World}{b off len:Nat}{zs:List Ob}(h:fZ A b off len zs)(hb:B.heap[b]? =A.heap[b]?):fZ B b off len zs:=λi hi=>by
 obtain⟨h0,h1,h2,h3,h4⟩:=h i hi
 refine⟨?_,?_,?_,?_,?_⟩
 ·rw[<-h0];simp[World.cell?,hb]
 ·rw[<-h1];simp[World.cell?,hb]
 ·rw[<-h2];simp[World.cell?,hb]
 ·rw[<-h3];simp[World.cell?,hb]
 ·rw[<-h4];simp[World.cell?,hb]
theorem fZ.at{A:World}{b off len:Nat}{l:List Ob}(h:fZ A b off len l)(i:Nat)(hi:i<len):A.cell? ⟨b,off+i*5,none⟩=some (.int .i64 (Dl l i).pos)/\A.cell? ⟨b,off+i*5+1,none⟩=some (.int .i64 (Dl l i).s)/\A.cell? ⟨b,off+i*5+2,none⟩=some (.int .i64 (Dl l i).p)/\A.cell? ⟨b,off+i*5+3,none⟩=some (.bool (Dl l i).g)/\A.cell? ⟨b,off+i*5+4,none⟩=some (.int .u64 (Dl l i).t):=h i hi
theorem fZ.of{W:World}{b off len:Nat}{l:List Ob}(h:∀i,i<len->W.cell? ⟨b,off+i*5,none⟩=some (.int .i64 (Dl l i).pos)/\W.cell? ⟨b,off+i*5+1,none⟩=some (.int .i64 (Dl l i).s)/\W.cell? ⟨b,off+i*5+2,none⟩=some (.int .i64 (Dl l i).p)/\W.cell? ⟨b,off+i*5+3,none⟩=some (.bool (Dl l i).g)/\W.cell? ⟨b,off+i*5+4,none⟩=some (.int .u64 (Dl l i).t)):fZ W b off len l:=h
theorem fZ.none(W:World)(b off:Nat)(l:List Ob):fZ W b off 0 l:=λi hi=>absurd hi (Nat.not_lt_zero _)
attribute [irreducible] fZ
def Oq(W:World)(v:Value)(zs:List Int):Prop:=∃(ad:Option Addr)(b off cap:Nat),v=.slice ad zs.length cap/\((0<zs.length->ad=some ⟨b,off,none⟩)/\(ad=none->cap=0))/\zs.length<=cap/\(cap<9223372036854775808/\zs.length<1000000000000)/\b<W.heap.size/\dV W b off zs.length zs
def Hy(W:World)(v:Value)(zs:List Ob):Prop:=∃(ad:Option Addr)(b off cap:Nat),v=.slice ad zs.length cap/\((0<zs.length->ad=some ⟨b,off,none⟩)/\(ad=none->cap=0))/\zs.length<=cap/\(cap<9223372036854775808/\zs.length<1000000000000)/\b<W.heap.size/\fZ W b off zs.length zs
theorem Hy.nil{W:World}(h:0<W.heap.size):Hy W (.slice none 0 0) []:=⟨none,0,0,0,rfl,⟨λh=>by simp at h,λ_=>rfl⟩,Nat.le_refl _,by simp,h,fZ.none _ _ _ _⟩
def Small(zs:List Int):Prop:=∀i,0<=zs.getD i 0/\zs.getD i 0<18446744073709551616
instance:DecidableEq Ob:=λa b=>if h:a.pos=b.pos/\a.s=b.s/\a.p=b.p/\a.g=b.g/\a.t=b.t then .isTrue (by cases a;cases b;simp at h;simp[h])else .isFalse (λe=>h (by rw[e];simp))
end Go.Proofs.YtlncengggmgdgaaGreat.ob
namespace Go.Proofs.YtlncengggmgdgaaGreat.ob
open Go.RowKit hd
attribute [local irreducible] par.ah
theorem Dn(x:Int)(w:World)(h1:0<=x)(h2:x<18446744073709551616):
  Calls (par.ah par.Hm) 95 #[.int .u64 x] w λe w'=>e=.returned (.bool (Kq x))/\w=w':=by
 have HP:=Lib.hid (Qq x)
 go_enter (par.adM (H:=par.Hm)),Tryz.ntmps95
 go_wp2_with fail
 refine(nS x _ h1 h2).mono ?_;rintro e ww ⟨rfl,rfl⟩
 generalize Oa x=E at*
 go_wp2_with fail
 all_goals go_ret
 all_goals (refine⟨?_,rfl⟩;rw[HP.out];simp_all;try rw[Bool.eq_iff_iff];try simp_all)
def rowOk(o:Ob)(ys:List Int)(k:Nat):Prop:=∀i,i<k->iE o i (ys.getD i 0)=true
theorem Ot{o:Ob}{ys:List Int}{k:Nat}(h:rowOk o ys k):iE o k (ys.getD k 0)=true->rowOk o ys (k+1):=λg i hi=>by
 by_cases e:i<k
 ·exact h i e
 ·obtain rfl:i=k:=by omega
  exact g
theorem TF{o:Ob}{ys:List Int}{k n:Nat}(h:k<n):iE o k (ys.getD k 0)=false->¬rowOk o ys n:=λg q=>by
 have:=q k h;rw[g]at this;cases this
def TG(o:Ob)(ys:List Int)(S:Nat)(e:Ending):Prop:=(rowOk o ys S/\e=.returned (.int .i64 0))\/(¬rowOk o ys S/\e=.returned (.int .i64 3))
set_option maxHeartbeats 2000000 in
theorem TJ(b off S c:Nat)(ad:Option Addr)(o:Ob)(ys:List Int)(w:World)(hS:S<1000000000000)(had:0<S->ad=some ⟨b,off,none⟩)(hx:dV w b off S ys)(hz:∀i,0<=ys.getD i 0/\ys.getD i 0<18446744073709551616):
  Calls (par.ah par.Hm) 97 #[.slice ad S c,oV o] w λe w'=>TG o ys S e/\Below w.heap.size w w':=by
 obtain⟨p0,s,p,g,t⟩:=o
 have HX:=Lib.hid hx
 have HZ:=Lib.hid hz
 have HA:=Lib.hid had
 clear hx hz had
 unfold oV
 go_enter (par.adO (H:=par.Hm)),Tryz.ntmps97
 go_wp2_with fail
 go_loop [5] (λi=>∃k:Nat,k<=S/\i=.int .i64 k/\Hid (rowOk ⟨p0,s,p,g,t⟩ ys k)) (λi=>S-(intOf i).toNat)
 case atStart=>exact⟨0,Nat.zero_le _,rfl,λi hi=>by omega⟩
 case round=>
  obtain⟨k,hk,rfl,hok⟩:=hrel
  by_cases hlk:k<S
  ·obtain rfl:=HA.out (by omega)
   have hxk:=HX.out.at k hlk
   have hbl:b<w.heap.size:=HX.out.lt (by omega)
   have hb0:b≠w.heap.size:=by omega
   have hzk:=HZ.out k
   have HG:=Lib.hid (Ot (o:=⟨p0,s,p,g,t⟩) (ys:=ys) hok.out)
   have HB:=Lib.hid (TF (o:=⟨p0,s,p,g,t⟩) (ys:=ys) (n:=S) hlk)
   generalize ys.getD k 0=x at*
   cases g with
   |true=>
    by_cases hx0:x=0
    ·have hxb:(x==0)=true:=by simp[hx0]
     subst hx0
     by_cases hkp:(k:Int)<p
     ·have hkd:decide ((k:Int)<p)=true:=decide_eq_true hkp
      have hp0:Kq 0=true:=by decide
      go_wp2_with fail
      refine(Dn 0 _ (by omega) (by omega)).mono ?_;rintro e ww ⟨rfl,rfl⟩
      rw[hp0]
      go_wp2_with fail
      exact⟨⟨k+1,by omega,by go_num,HG.out (by simp[iE])⟩,by simp[intOf];omega⟩
     ·have hkd:decide ((k:Int)<p)=false:=decide_eq_false hkp
      go_wp2_with fail
      exact⟨⟨k+1,by omega,by go_num,HG.out (by simp[iE])⟩,by simp[intOf];omega⟩
    ·have hxb:(x==0)=false:=by simp[hx0]
     go_wp2_with fail
     go_ret
     refine⟨.inr ⟨HB.out (by simp[iE,hx0]),rfl⟩,?_⟩
     exact bm
   |false=>
    by_cases hkp:(k:Int)<p
    ·have hkd:decide ((k:Int)<p)=true:=decide_eq_true hkp
     go_wp2_with fail
     refine(Dn x _ hzk.1 hzk.2).mono ?_;rintro e ww ⟨rfl,rfl⟩
     rcases hpb:Kq x with _|_
     ·go_wp2_with fail
      go_ret
      refine⟨.inr ⟨HB.out (by simp[iE,hkp,hpb]),rfl⟩,?_⟩
      exact bm
     ·go_wp2_with fail
      exact⟨⟨k+1,by omega,by go_num,HG.out (by simp[iE,hpb])⟩,by simp[intOf];omega⟩
    ·have hkd:decide ((k:Int)<p)=false:=decide_eq_false hkp
     go_wp2_with fail
     exact⟨⟨k+1,by omega,by go_num,HG.out (by simp[iE,hkp])⟩,by simp[intOf];omega⟩
  ·obtain rfl:k=S:=by omega
   go_wp2_with fail
   go_ret
   refine⟨.inl ⟨hok.out,rfl⟩,?_⟩
   exact bm
end Go.Proofs.YtlncengggmgdgaaGreat.ob
