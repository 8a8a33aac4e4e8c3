/- objects.walk: its deferred closure, and the walk itself. No conditions. -/
import Derived.Test.YtpgjploaliefdaaGreatOw
import Derived.Recover
import Derived.RecoverIn
import Derived.RegionIn
import Derived.Defers
import Derived.OwnWalk
import Derived.Maps.AppendAt
import Derived.Laws.AppendOwn
namespace Go.Proofs.YtpgjploaliefdaaGreat.ob
open Go.RowKit Go.Shelf hd rt
set_option linter.unusedVariables false
set_option linter.unusedSimpArgs false
attribute [local go_sem] Oper.semAt_some
theorem Zw(W:World):Sem.run Tryz.prog (binOp .neq 20 .nilIface .nilIface) W=.ok (.bool false) W:=by kernel_rfl
theorem Xa(k:Int)(W:World):Sem.run Tryz.prog (binOp .neq 20 (.iface 192 (.agg #[.int .i64 k])) .nilIface) W=.ok (.bool true) W:=by kernel_rfl
theorem catch_idle(n:Nat)(p q:Addr)(w:World):
  CallsDIn Fence.wide n Tryz.prog 129 #[.pointer (some p),.pointer (some q)] .returning w λe u' w'=>e=.returned (.tuple #[])/\u'=.returning/\w'=w:=by
 refine callsDIn_of_wpSIn Tryz.func129 rfl trivial λc₀ cs hu=> ?_
 apply wpSIn_seq
 apply wpSIn_region
 simp[wpOpsSIn,go_sem,recoverD,hu,Tryz.ntmps129,Exit.thenS]
 have hnn:=Zw
 refine wpSIn_of_wpIn rfl ?_
 show Code.wpIn _ _ _ _ _ {tmps:= #[.pointer (some p),.pointer (some q),.nilIface,undef,undef,.nilIface,undef,undef,undef,undef,undef,undef,undef,undef,undef,undef,undef,undef],defers:=[]} w
 gi_wp2
 trace_state
 exact⟨rfl,.returning,by cases c₀;simp_all,_,results_none rfl _ _ _,rfl,rfl,rfl⟩
theorem GX(k:Int)(W:World):Sem.run Tryz.prog (Instr.typeAssert (.iface 192 (.agg #[.int .i64 k])) 20 192 true) W=.ok (.tuple #[.agg #[.int .i64 k],.bool true]) W:=by kernel_rfl
structure rW(p q:Nat)(w w':World):Prop where
 os:w'.os=w.os
 tape:w'.tape=w.tape
 output:w'.output=w.output
 size:w.heap.size<=w'.heap.size
 block:∀k,k<w.heap.size->k≠p->k≠q->w'.heap[k]? =w.heap[k]?
theorem rW.refl(p q:Nat)(w:World):rW p q w w:=⟨rfl,rfl,rfl,Nat.le_refl _,λ_ _ _ _=>rfl⟩
theorem rW.alloc{p q:Nat}{a w:World}(h:rW p q a w)(o:Obj):rW p q a (w.alloc o):=
 ⟨h.os,h.tape,h.output,by have:=h.size;simp;omega,λk hk h1 h2=>(Below.heap_alloc w o k (Nat.lt_of_lt_of_le hk h.size)).trans (h.block k hk h1 h2)⟩
theorem rW.drew{p q:Nat}{a w:World}(h:rW p q a w):rW p q a w.drew:=⟨h.os,h.tape,h.output,h.size,h.block⟩
theorem rW.set{p q:Nat}{a w:World}(h:rW p q a w)(b:Addr)(hb:b.block=p\/b.block=q\/a.heap.size<=b.block)(v:Value):rW p q a (w.setCell b v):=
 ⟨h.os,h.tape,h.output,by simpa using h.size,λk hk h1 h2=>(Below.heap_setCell w b v k (by omega)).trans (h.block k hk h1 h2)⟩
set_option maxHeartbeats 4000000 in
theorem GY(n:Nat)(p q:Nat)(x y:Value)(k:Int)(w:World)(hp:aj w p #[x] 28)(hq:aj w q #[y] 36)(hpq:p≠q):
  CallsDIn Fence.wide n Tryz.prog 129 #[.pointer (some ⟨p,0,none⟩),.pointer (some ⟨q,0,none⟩)] (.panicking [{v:=rF k,recovered:=false}]) w λe u' w'=>e=.returned (.tuple #[])/\u'=.panicking [{v:=rF k,recovered:=true}]/\aj w' p #[.slice none 0 0] 28/\aj w' q #[.int .i64 k] 36/\rW p q w w':=by
 refine callsDIn_of_wpSIn Tryz.func129 rfl trivial λc₀ cs hu=> ?_
 unfold rF at*
 obtain⟨lp,cp,fp⟩:=hp.get
 obtain⟨lq,cq,fq⟩:=hq.get
 have cp0:=cp 0
 have cq0:=cq 0
 apply wpSIn_seq
 apply wpSIn_region
 simp[wpOpsSIn,go_sem,recoverD,hu,Tryz.ntmps129,Exit.thenS]
 have hnn:=Xa k
 refine wpSIn_of_wpIn rfl ?_
 show Code.wpIn _ _ _ _ _ {tmps:= #[.pointer (some ⟨p,0,none⟩),.pointer (some ⟨q,0,none⟩),.iface 192 (.agg #[.int .i64 k]),undef,undef,.iface 192 (.agg #[.int .i64 k]),undef,undef,undef,undef,undef,undef,undef,undef,undef,undef,undef,undef],defers:=[]} w
 have hta:=GX k
 have hn0:p≠w.heap.size:=by omega
 have hn1:q≠w.heap.size:=by omega
 have hn2:q≠p:=λe=>hpq e.symm
 have hn3:w.heap.size≠p:=by omega
 have hn4:w.heap.size≠q:=by omega
 gi_wp2
 gi_region
 gi_wp2
 refine⟨rfl,_,rfl,_,results_none rfl _ _ _,rfl,rfl,?_,?_,?_⟩
 ·exact(((hp.set 0 (.slice none 0 0)).other (p:=⟨q,0,none⟩) hpq _).alloc _).drew
 ·exact(((hq.other (p:=⟨p,0,none⟩) hn2 (.slice none 0 0)).set 0 (.int .i64 k)).alloc _).drew
 ·exact((((rW.refl p q w).set ⟨p,0,none⟩ (.inl rfl) _).set ⟨q,0,none⟩ (.inr (.inl rfl)) _).alloc _).drew
theorem TJ(sv gv:Value)(w:World)(hg:gv=.nilFunc\/∃f a c,gv=.func f a c)(hs:∃a l c,sv=.slice a l c):
  Calls Tryz.prog 130 #[sv,gv] w λe w'=>e=.returned (.func (.func 135) #[] #[.pointer (some ⟨w.heap.size,0,none⟩),.pointer (some ⟨w.heap.size+1,0,none⟩)])/\w'=(w.alloc (.cells #[sv] 29)).alloc (.cells #[gv] 193):=by
 have hmf:∀(fn:Fn)(first cap:Array Value)(w:World),(Instr.makeFunc fn first cap).run Tryz.prog w=.ok (.func fn first cap) w:=λ_ _ _ _=>rfl
 obtain⟨a,l,c,rfl⟩:=hs
 rcases hg with rfl|⟨f,a2,c2,rfl⟩
 ·go_enter Tryz.func130,Tryz.ntmps130
  go_wp2_with fail
  go_ret
  exact⟨rfl,rfl⟩
 ·go_enter Tryz.func130,Tryz.ntmps130
  go_wp2_with fail
  go_ret
  exact⟨rfl,rfl⟩
def dG(o:Ob):List Value:=[.int .i64 o.pos,.int .i64 o.s,.int .i64 o.p,.bool o.g,.int .u64 o.t]
def jX:List Ob->List Value
 |[]=>[]
 |o::l=>dG o++jX l
theorem Lp(l:List Ob)(o:Ob):jX (l++[o])=jX l++dG o:=by
 induction l with
 |nil=>simp[jX]
 |cons a l ih=>simp[jX,ih]
def cu(W:World)(B:Nat)(v:Value)(l:List Ob):Prop:=W.ownsRow B 58 5 v l.length (jX l)
theorem Oi:(Tryz.prog.info? 58).map (λi=>(i.zero,i.size,i.bytes))=some (some (.agg #[.int .i64 0,.int .i64 0,.int .i64 0,.bool false,.int .u64 0]),5,40):=by kernel_rfl
structure zx(w:World)(row:Option Nat)(xs:List Ob)(W:World):Prop where
 l:∃v,aj W w.heap.size #[v] 28/\cu W (w.heap.size+6) v xs
 e:aj W (w.heap.size+1) #[.int .i64 0] 36
 g:w.grownBy W row
theorem zx.grown{w:World}{row:Option Nat}(hrow:∀r,row=some r->r<w.heap.size){xs:List Ob}{A B:World}(h:zx w row xs A)(hg:A.grownBy B row):zx w row xs B:=by
 obtain⟨⟨v,h1,h2⟩,h3,h4⟩:=h
 have hne:∀k,w.heap.size<=k->some k≠row:=λk hk e=>by have:=hrow k e.symm;omega
 refine⟨⟨v,aj.of ((hg.block _ h1.lt (hne _ (Nat.le_refl _))).trans h1.raw),World.ownsRow.kept h2 hg ?_⟩,aj.of ((hg.block _ h3.lt (hne _ (by omega))).trans h3.raw),h4.trans hg⟩
 rcases hv:v.ownBlock with _|k
 ·exact .inl rfl
 ·exact .inr (hne k (by have:=(World.ownsRow.lt h2 k hv).1;omega))
theorem zx.put{w:World}{row:Option Nat}{xs:List Ob}{A:World}(h:zx w row xs A){l:Nat}{o:Obj}(o':Obj)(hl:w.heap.size+4<=l)(ho:A.heap[l]? =some o)(hc:o.isCells=false):zx w row xs (A.putObj l o'):=by
 obtain⟨⟨v,h1,h2⟩,h3,h4⟩:=h
 have hg:=grownBy_putObj' A l o'
 refine⟨⟨v,aj.of ((World.putObj_heap_other (by omega)).trans h1.raw),World.ownsRow.kept h2 hg ?_⟩,aj.of ((World.putObj_heap_other (by omega)).trans h3.raw),⟨h4.os,h4.tape,h4.output,by simpa using h4.size,λk hk hne=>(World.putObj_heap_other (by omega)).trans (h4.block k hk hne)⟩⟩
 rcases hv:v.ownBlock with _|k
 ·exact .inl rfl
 ·refine .inr (λe=> ?_)
  cases e
  rcases h2.2 with⟨rfl,_⟩|⟨g,cap,cur,rfl,_,hgg,_⟩
  ·simp[Value.ownBlock]at hv
  ·simp[Value.ownBlock]at hv
   subst hv
   rw[ho]at hgg;cases hgg;cases hc
end Go.Proofs.YtpgjploaliefdaaGreat.ob
namespace Go.Proofs.YtpgjploaliefdaaGreat.ob
open Go.RowKit Go.Shelf hd rt
set_option linter.unusedVariables false
set_option linter.unusedSimpArgs false
attribute [local go_sem] Oper.semAt_some
theorem aj.putObj{w:World}{n l:Nat}{cs:Array Value}{T:TypeId}(h:aj w n cs T)(hl:n≠l)(o:Obj):aj (w.putObj l o) n cs T:=aj.of ((World.putObj_heap_other hl).trans h.raw)
theorem _root_.Go.World.grownBy.over{w A B:World}{row r:Option Nat}(h:w.grownBy A row)(k:A.grownBy B r)(hr:∀j,r=some j->w.heap.size<=j):w.grownBy B row:=
 ⟨k.os.trans h.os,k.tape.trans h.tape,k.output.trans h.output,Nat.le_trans h.size k.size,λi hi hne=>(k.block i (Nat.lt_of_lt_of_le hi h.size) (λe=>by have:=hr i e.symm;omega)).trans (h.block i hi hne)⟩
theorem Xb(w:World)(o:Ob)(T:TypeId):∀j u,(dG o)[j]? =some u->(w.alloc (.cells #[.int .i64 o.pos,.int .i64 o.s,.int .i64 o.p,.bool o.g,.int .u64 o.t] T)).cell? ((⟨w.heap.size,0,none⟩:Addr).add j)=some u:=by
 intro j u hj
 have e:(⟨w.heap.size,0,none⟩:Addr).add j=⟨w.heap.size,j,none⟩:=by unfold Addr.add;split<;>simp_all
 rw[e,World.cell?_alloc_new,<-hj]
 simp[dG]
theorem zx.two{w:World}{row:Option Nat}(hrow:∀r,row=some r->r<w.heap.size){xs:List Ob}{A B:World}(h:zx w row xs A)(hg:A.grownBy B row):
  ∃v,(∀k,v.ownBlock=some k->w.heap.size+6<=k/\k<A.heap.size)/\aj B w.heap.size #[v] 28/\cu B (w.heap.size+6) v xs/\aj B (w.heap.size+1) #[.int .i64 0] 36/\w.grownBy B row:=by
 obtain⟨⟨v,h1,h2⟩,h3,h4⟩:=h
 have hne:∀k,w.heap.size<=k->some k≠row:=λk hk e=>by have:=hrow k e.symm;omega
 refine⟨v,λk hk=>World.ownsRow.lt h2 k hk,aj.of ((hg.block _ h1.lt (hne _ (Nat.le_refl _))).trans h1.raw),World.ownsRow.kept h2 hg ?_,aj.of ((hg.block _ h3.lt (hne _ (by omega))).trans h3.raw),h4.trans hg⟩
 rcases hv:v.ownBlock with _|k
 ·exact .inl rfl
 ·exact .inr (hne k (by have:=(World.ownsRow.lt h2 k hv).1;omega))
theorem Aq{w W:World}{row:Option Nat}(h:w.grownBy W row){l:Nat}(hl:w.heap.size<=l)(o:Obj):w.grownBy (W.putObj l o) row:=
 ⟨h.os,h.tape,h.output,by simpa using h.size,λk hk hne=>(World.putObj_heap_other (by omega)).trans (h.block k hk hne)⟩
theorem Xc{W:World}{B l:Nat}{v:Value}{xs:List Ob}(h:cu W B v xs)(hl:∃ob,W.heap[l]? =some ob/\ob.isCells=false)(o:Obj):cu (W.putObj l o) B v xs:=by
 refine World.ownsRow.kept h (grownBy_putObj' W l o) ?_
 rcases hv:v.ownBlock with _|k
 ·exact .inl rfl
 ·refine .inr (λe=> ?_)
  cases e
  obtain⟨ob,ho,hc⟩:=hl
  rcases h.2 with⟨rfl,_⟩|⟨g,cap,cur,rfl,_,hgg,_⟩
  ·simp[Value.ownBlock]at hv
  ·simp[Value.ownBlock]at hv
   subst hv
   rw[ho]at hgg;cases hgg;cases hc
def TK(w:World)(St:Nat->World->Prop)(r:TI)(e:Ending)(W':World):Prop:=
 match r with
 | .ok l k=>St k W'/\∃v,e=.returned (.tuple #[v,.int .i64 0])/\cu W' (w.heap.size+6) v l
 | .err c k=>St k W'/\e=.returned (.tuple #[.slice none 0 0,.int .i64 c])
set_option maxRecDepth 100000 in
set_option maxHeartbeats 4000000 in
theorem walk_any(b off len cap:Nat)(ad:Option Addr)(zs:List Int)(gv:Value)(St:Nat->World->Prop)(bg:Nat->Nat->Int->Option (Ob×Nat))(row:Option Nat)(hok:CS b off len cap zs gv St bg row)
  (had:0<len->ad=some ⟨b,off,none⟩) (hlc:len<=cap) (hcap:cap<9223372036854775808/\len<1000000000000) (hz:∀i,0<=zs.getD i 0/\zs.getD i 0<18446744073709551616)
  (hgv:gv=.nilFunc\/∃f a c,gv=.func f a c) (w:World) (hW:bC w b off len zs) (hSt:St 0 w) (hrow:∀r,row=some r->r<w.heap.size/\r≠b)
  (Pz:∀k A B,St k A->(∀j,j<w.heap.size->B.heap[j]? =A.heap[j]?)->St k B):
  Calls Tryz.prog 122 #[.slice ad len cap,gv] w λe W'=>w.grownBy W' row/\TK w St (aV bg zs len (len+1) 0 0 []) e W':=by
 obtain⟨i0,hi,hz0,hz1,hz2⟩:=info_parts Oi
 have hmf:∀(fn:Fn)(first cap:Array Value)(w:World),(Instr.makeFunc fn first cap).run Tryz.prog w=.ok (.func fn first cap) w:=λ_ _ _ _=>rfl
 refine(callsIn_wide (n:=5)).1 ?_
 refine callsIn_of_wp_marks Tryz.func122 rfl trivial ?_ rfl
 simp only[Tryz.ntmps122,List.size_toArray,List.length_cons,List.length_nil,Nat.reduceAdd,Nat.reduceSub,Array.replicate_succ,Array.replicate_zero,List.push_toArray,List.append_toArray,List.nil_append,List.cons_append]
 gi_wp2_with fail
 refine⟨trivial,(callsIn_wide.2 (TJ _ _ _ hgv ⟨_,_,_,rfl⟩)).mono ?_⟩
 rintro e w1 ⟨rfl,rfl⟩
 gi_wp2_with fail
 obtain⟨W0,hW0⟩:∃W0,((((w.alloc (.cells #[.slice none 0 0] 28)).alloc (.cells #[.int .i64 0] 36)).alloc (.cells #[.slice ad len cap] 29)).alloc (.cells #[gv] 193))=W0:=⟨_,rfl⟩
 rw[hW0]
 have hB0:Below w.heap.size w W0:=by rw[<-hW0];exact bm
 have b0:aj W0 w.heap.size #[.slice none 0 0] 28:=by rw[<-hW0];exact(((aj.new _ _ _).alloc _).alloc _).alloc _
 have b1:aj W0 (w.heap.size+1) #[.int .i64 0] 36:=by rw[<-hW0];exact((aj.mk (by simp)).alloc _).alloc _
 have b2:aj W0 (w.heap.size+1+1) #[.slice ad len cap] 29:=by rw[<-hW0];exact(aj.mk (by simp)).alloc _
 have b3:aj W0 (w.heap.size+1+1+1) #[gv] 193:=by rw[<-hW0];exact aj.mk (by simp)
 have hsz:W0.heap.size=w.heap.size+4:=by rw[<-hW0];simp
 clear hW0
 have hrow1:∀r,row=some r->r<w.heap.size:=λr e=>(hrow r e).1
 have hE:rG b off len cap zs gv (.slice ad len cap) St (w.heap.size+1+1) (w.heap.size+1+1+1) 0 W0:=by
  refine⟨?_,Pz _ _ _ hSt hB0.block,b2,b3⟩
  rcases Nat.eq_zero_or_pos len with h|h
  ·subst h;exact bC.none _ _ _ _
  ·exact hW.block (hB0.block b (hW.lt h))
 refine uV (w:=W0) rfl (by omega) (gf:=135) (lb:= #[.pointer (some ⟨w.heap.size+1+1,0,none⟩),.pointer (some ⟨w.heap.size+1+1+1,0,none⟩)]) rfl trivial (enters_of Tryz.func135 (by kernel_rfl) rfl)
  (λr e=>by have:=hrow1 r e;omega)
  (GV 4 (by omega) b off len cap ad zs gv St bg row hok had hlc (by omega) hz (λS hS=>by omega) W0 w.heap.size (w.heap.size+1+1) (w.heap.size+1+1+1) (by omega) (by omega) (λh=>by have:=hW.lt h;omega) (λr e=>by have:=hrow r e;exact⟨by omega,by omega,this.2⟩) ?Zu hE)
  (λ_=>rfl) (zx w row) (λs A B h hg=>h.grown hrow1 hg) (λs A l o o' h hl ho hc=>h.put o' (by omega) ho hc) ?hSp ?h0 ?Ll ?hdone ?GU
 case Zu=>
  intro k A W1 W' hs h hk
  exact Pz _ _ _ h λj hj=>hk.2 j (by omega) (.inl ⟨by omega,by omega⟩)
 case hSp=>
  rintro s A l o o' ⟨k,h1,h2⟩ hl ho hc
  exact⟨k,h1,Pz _ _ _ h2 λj hj=>World.putObj_heap_other (by omega)⟩
 case h0=>exact⟨⟨_,b0,World.ownsRow_nil _ _ _ _⟩,b1,below_grown hB0 row⟩
 case Ll=>
  intro pre x A W1 hIA hlen hszA hg hnD hnL
  obtain⟨v,hown0,hl,hrw,he,hgg⟩:=hIA.two hrow1 hg
  rw[hsz]at hszA hnD hnL⊢
  obtain⟨p0,s,p,g,t⟩:=x
  simp only[oV]
  gi_wp2
  refine⟨?_,?_,λo Wb YH=> ?_⟩
  ·exact Below.heap_alloc _ _ _ (by have:=hg.size;omega)
  ·exact Below.heap_alloc _ _ _ (by have:=hg.size;omega)
  have hlb:aj Wb w.heap.size #[v] 28:=by rw[YH];exact aj.putObj (hl.alloc _) (by omega) _
  have hxb:aj Wb W1.heap.size #[.int .i64 p0,.int .i64 s,.int .i64 p,.bool g,.int .u64 t] 58:=by rw[YH];exact aj.putObj (aj.new _ _ _) (by have:=hg.size;omega) _
  have hI2:w.grownBy Wb row:=by rw[YH];exact Aq (mQ hgg _) (by omega) _
  have hrb:cu Wb (w.heap.size+6) v pre:=by rw[YH];exact Xc (World.ownsRow.alloc hrw _) (by obtain⟨ob,h1,h2⟩:=hnL;exact⟨ob,(Below.heap_alloc _ _ _ (Array.getElem?_eq_some_iff.1 h1).1).trans h1,h2⟩) _
  have heb:aj Wb (w.heap.size+1) #[.int .i64 0] 36:=by rw[YH];exact aj.putObj (he.alloc _) (by omega) _
  have Zx:Wb.heap.size=W1.heap.size+1:=by rw[YH];simp
  have hbk:Hid (∀k,k<W1.heap.size->k≠w.heap.size+4+1->Wb.heap[k]? =W1.heap[k]?):=λk hk hne=>by rw[YH];exact(World.putObj_heap_other hne).trans (Below.heap_alloc _ _ _ hk)
  clear YH
  obtain⟨ll,cl,fl⟩:=hlb.get
  obtain⟨lx,cx,fx⟩:=hxb.get
  have cl0:=cl 0
  obtain⟨va,vn,vc,rfl⟩:∃a n c,v=.slice a n c:=by
   rcases hrw.2 with⟨rfl,_⟩|⟨g,cap,cur,rfl,_⟩
   ·exact⟨_,_,_,rfl⟩
   ·exact⟨_,_,_,rfl⟩
  have YI:=Lib.hid Zx
  clear Zx
  gi_wp2_with (first|(gi_at_builtin;refine wpListIn_append_own _ rfl _ _ 28 rfl (w.heap.size+6) 58 i0 _ 5 40 Tryz.underlying28 hi hz0 hz1 hz2 rfl (by decide) _ _ _ rfl (World.ownsRow.alloc hrb _) ⟨Wb.heap.size,0,none⟩ 1 1 (dG ⟨p0,s,p,g,t⟩) rfl rfl ?c0 ?c1 ?c2 ?c3 ?c4 ?_))
  case c0=>exact Xb _ _ _
  case c1=>intro u hu;simp[dG]at hu;rcases hu with rfl|rfl|rfl|rfl|rfl<;>rfl
  case c2=>unfold maxLen;omega
  case c3=>omega
  case c4=>have:=YI.out;have:=hg.size;simp;omega
  intro v' w2 hown hgrow hnil
  obtain⟨g',cap',rfl⟩:=ownsRow_succ hown
  have hne:∀k,(k<w.heap.size+6\/A.heap.size<=k)->some k≠(Value.slice va vn vc).ownBlock:=λk hk e=>by have:=hown0 k e.symm;omega
  have hl2:aj w2 w.heap.size #[.slice va vn vc] 28:=aj.of ((hgrow.block _ (by simp;omega) (hne _ (by omega))).trans (hlb.alloc _).raw)
  have he2:aj w2 (w.heap.size+1) #[.int .i64 0] 36:=aj.of ((hgrow.block _ (by have:=heb.lt;simp;omega) (hne _ (by omega))).trans (heb.alloc _).raw)
  have hg2:w.grownBy w2 row:=(mQ hI2 _).over hgrow (λk e=>by have:=hown0 k e;omega)
  have hH:=Lib.hid hgrow
  have hH2:=Lib.hid hown
  have hH3:=Lib.hid hne
  clear ll cl fl lx cx fx cl0 hgrow hown hnil hne
  obtain⟨ll,cl,fl⟩:=hl2.get
  have cl0:=cl 0
  gi_wp2
  have hgrow:=hH.out
  have hne:=hH3.out
  have hbk':=hbk.out
  have Zx:=YI.out
  have hgs:=hg.size
  have keep:∀k,k<Wb.heap.size->k≠w.heap.size->(k<w.heap.size+6\/A.heap.size<=k)->(w2.setCell ⟨w.heap.size,0,none⟩ (.slice (some ⟨g',0,none⟩) (pre.length+1) cap')).heap[k]? =Wb.heap[k]? :=λk hk h1 h2=>
   (Below.heap_setCell _ _ _ k h1).trans ((hgrow.block k (by simp;omega) (hne k h2)).trans (Below.heap_alloc _ _ _ hk))
  refine⟨keep _ (by omega) (by omega) (by omega),keep _ (by omega) (by omega) (by omega),⟨?_,λk hk hor=> ?_⟩,⟨⟨_,hl2.set 0 _,?_⟩,he2.other (by simp) _,?_⟩⟩
  ·have:=hgrow.size;simp at this⊢;omega
  ·rcases hor with⟨h1,h2⟩|h1
   ·exact(keep k (by omega) h2 (by omega)).trans (hbk' k hk (by omega))
   ·exact(keep k (by omega) (by omega) (.inr h1)).trans (hbk' k hk (by omega))
  ·have h7:=World.ownsRow.kept hH2.out (grownBy_setCell' w2 w.heap.size (.slice (some ⟨g',0,none⟩) (pre.length+1) cap')) (.inr (λe=>by have:=(World.ownsRow.lt hH2.out w.heap.size e).1;omega))
   unfold cu
   rw[Lp,List.length_append]
   exact h7
  ·exact hg2.over (grownBy_setCell' w2 w.heap.size _) (λk e=>by cases e;exact Nat.le_refl _)
 case hdone=>
  rintro xs W ⟨k,hr,hst⟩ ⟨⟨v,hl,hrw⟩,he,hgg⟩ hK
  obtain⟨va,vn,vc,rfl⟩:∃a n c,v=.slice a n c:=by
   rcases hrw.2 with⟨rfl,_⟩|⟨g,cap,cur,rfl,_⟩
   ·exact⟨_,_,_,rfl⟩
   ·exact⟨_,_,_,rfl⟩
  rw[hsz]at hK⊢
  dsimp only
  have hne1:w.heap.size≠w.heap.size+1:=by omega
  have hne2:w.heap.size+1≠w.heap.size:=by omega
  have hHr:=Lib.hid hr
  have hHK:=Lib.hid hK
  obtain⟨ll,cl,fl⟩:=hl.get
  obtain⟨le,ce,fe⟩:=he.get
  have cl0:=cl 0
  have ce0:=ce 0
  clear hr hK
  gi_wp2
  have hK2:((W.setCell ⟨w.heap.size,0,none⟩ (.slice va vn vc)).setCell ⟨w.heap.size+1,0,none⟩ (.int .i64 0)).heap[w.heap.size+4]? =some (.deferred (some [])):=
   (Below.heap_setCell _ _ _ _ (by simp)).trans ((Below.heap_setCell _ _ _ _ (by simp)).trans hHK.out)
  refine⟨by simp,.inl ⟨_,_,rfl,run_takeDeferred hK2,?_⟩⟩
  refine⟨by simp,.inr ⟨λ_=>by omega,_,_,129,#[.pointer (some ⟨w.heap.size,0,none⟩),.pointer (some ⟨w.heap.size+1,0,none⟩)],rfl,by simp[invoke,go_sem],λ_ _=>trivial,(catch_idle _ _ _ _).mono ?_⟩⟩
  rintro e u' w'' ⟨rfl,rfl,rfl⟩
  have gl:aj (((W.setCell ⟨w.heap.size,0,none⟩ (.slice va vn vc)).setCell ⟨w.heap.size+1,0,none⟩ (.int .i64 0)).putObj (w.heap.size+4) (.deferred none)) w.heap.size #[.slice va vn vc] 28:=aj.putObj ((hl.set 0 _).other (by simp) _) (by omega) _
  have ge:aj (((W.setCell ⟨w.heap.size,0,none⟩ (.slice va vn vc)).setCell ⟨w.heap.size+1,0,none⟩ (.int .i64 0)).putObj (w.heap.size+4) (.deferred none)) (w.heap.size+1) #[.int .i64 0] 36:=aj.putObj ((he.other (by simp) _).set 0 _) (by omega) _
  have gg:w.grownBy (((W.setCell ⟨w.heap.size,0,none⟩ (.slice va vn vc)).setCell ⟨w.heap.size+1,0,none⟩ (.int .i64 0)).putObj (w.heap.size+4) (.deferred none)) row:=
   Aq ((hgg.over (grownBy_setCell' _ _ _) (λk e=>by cases e;omega)).over (grownBy_setCell' _ _ _) (λk e=>by cases e;omega)) (by omega) _
  have gs:St k (((W.setCell ⟨w.heap.size,0,none⟩ (.slice va vn vc)).setCell ⟨w.heap.size+1,0,none⟩ (.int .i64 0)).putObj (w.heap.size+4) (.deferred none)):=Pz _ _ _ hst λj hj=>
   (World.putObj_heap_other (by omega)).trans ((Below.heap_setCell _ _ _ _ (by show j≠w.heap.size+1;omega)).trans (Below.heap_setCell _ _ _ _ (by show j≠w.heap.size;omega)))
  have go:cu (((W.setCell ⟨w.heap.size,0,none⟩ (.slice va vn vc)).setCell ⟨w.heap.size+1,0,none⟩ (.int .i64 0)).putObj (w.heap.size+4) (.deferred none)) (w.heap.size+6) (.slice va vn vc) xs:=by
   have hb:∀k,(Value.slice va vn vc).ownBlock=some k->w.heap.size+6<=k:=λk hk=>(World.ownsRow.lt hrw k hk).1
   refine World.ownsRow.kept (World.ownsRow.kept (World.ownsRow.kept hrw (grownBy_setCell' _ _ _) (.inr λe=> ?_)) (grownBy_setCell' _ _ _) (.inr λe=> ?_)) (grownBy_putObj' _ _ _) (.inr λe=> ?_)
   ·have:=hb _ e;omega
   ·have:=hb _ e;omega
   ·have:=hb _ e;omega
  generalize(((W.setCell ⟨w.heap.size,0,none⟩ (.slice va vn vc)).setCell ⟨w.heap.size+1,0,none⟩ (.int .i64 0)).putObj (w.heap.size+4) (.deferred none))=Z at*
  obtain⟨zl,zc,zf⟩:=gl.get
  obtain⟨yl,yc,yf⟩:=ge.get
  have zc0:=zc 0
  have yc0:=yc 0
  refine⟨.tuple #[.slice va vn vc,.int .i64 0],by simp only[results,Tryz.results122];go_simp,gg,?_⟩
  rw[hHr.out]
  exact⟨gs,_,rfl,go⟩
 case GU=>
  rintro chain pre W ⟨c,k,hr,rfl,hst⟩ ⟨⟨v,hl,hrw⟩,he,hgg⟩ hK
  rw[hsz]at hK⊢
  dsimp only
  have hHr:=Lib.hid hr
  have hHK:=Lib.hid hK
  clear hr hK
  gi_wp2
  refine⟨by simp,.inl ⟨_,_,rfl,run_takeDeferred hHK.out,?_⟩⟩
  have gl:=aj.putObj hl (l:=w.heap.size+4) (by omega) (.deferred none)
  have ge:=aj.putObj he (l:=w.heap.size+4) (by omega) (.deferred none)
  have gg:=Aq hgg (l:=w.heap.size+4) (by omega) (.deferred none)
  have gs:St k (W.putObj (w.heap.size+4) (.deferred none)):=Pz _ _ _ hst λj hj=>World.putObj_heap_other (by omega)
  generalize W.putObj (w.heap.size+4) (.deferred none)=Z at*
  refine⟨by simp,.inr ⟨λ_=>by omega,_,_,129,#[.pointer (some ⟨w.heap.size,0,none⟩),.pointer (some ⟨w.heap.size+1,0,none⟩)],rfl,by simp[invoke,go_sem],λ_ _=>trivial,(GY _ _ _ _ _ _ _ gl ge (by omega)).mono ?_⟩⟩
  rintro e u' w'' ⟨rfl,rfl,ql,qe,qk⟩
  obtain⟨zl,zc,zf⟩:=ql.get
  obtain⟨yl,yc,yf⟩:=qe.get
  have zc0:=zc 0
  have yc0:=yc 0
  refine⟨.tuple #[.slice none 0 0,.int .i64 c],by simp only[results,Tryz.results122];go_simp,?_,?_⟩
  ·exact⟨qk.os.trans gg.os,qk.tape.trans gg.tape,qk.output.trans gg.output,Nat.le_trans gg.size qk.size,λi hi hne=>(qk.block i (Nat.lt_of_lt_of_le hi gg.size) (by omega) (by omega)).trans (gg.block i hi hne)⟩
  ·rw[hHr.out]
   exact⟨Pz _ _ _ gs λj hj=>qk.block j (Nat.lt_of_lt_of_le hj gg.size) (by omega) (by omega),rfl⟩
end Go.Proofs.YtpgjploaliefdaaGreat.ob
namespace Go.Proofs.YtpgjploaliefdaaGreat.ob
open Go.RowKit Go.Shelf hd rt
set_option linter.unusedVariables false
set_option linter.unusedSimpArgs false
def oL(k pos:Nat)(x:Int):Option (Ob×Nat):=if jF x then some (⟨pos,rD x,BL x,false,0⟩,k)else none
theorem rX{x:Int}(h:jF x=true):0<=rD x/\rD x<=255:=by
 have h2:=h
 simp only[jF,bJ,Bool.and_eq_true,decide_eq_true_eq]at h2
 simp only[rD,h,if_true]
 omega
theorem Lr(b off len cap:Nat)(zs:List Int)(hl:len<9223372036854775808)(hz:∀i,0<=zs.getD i 0/\zs.getD i 0<18446744073709551616):
  CS b off len cap zs .nilFunc (λ_ _=>True) oL none:=by
 refine⟨λ_ _ _ _ _=>trivial,λk pos x o k' h=> ?_,λk pos W hp _ hw=> ?_⟩
 ·unfold oL at h
  split at h
  ·rename_i hu
   cases h
   exact⟨rfl,rX hu⟩
  ·cases h
 ·refine(Pn b off len cap pos _ W hp hl (hw.at pos hp) (hz pos).1 (hz pos).2).mono ?_
  rintro e W' ⟨h,hb⟩
  refine⟨below_grown hb none,?_⟩
  rcases h with⟨hu,rfl⟩|⟨hu,rfl⟩
  ·exact .inl ⟨_,k,by unfold oL;rw[if_pos hu],rfl,trivial⟩
  ·exact .inr ⟨by unfold oL;rw[if_neg (by rw[hu];simp)],rfl,trivial⟩
theorem grown_below{A B:World}(h:A.grownBy B none):Below A.heap.size A B:=⟨h.os,h.tape,h.output,h.size,λk hk=>h.block k hk (by simp)⟩
def jk(B:Nat)(r:TI)(e:Ending)(W':World):Prop:=
 match r with
 | .ok l k=>∃v,e=.returned (.tuple #[v,.int .i64 0])/\cu W' B v l
 | .err c k=>e=.returned (.tuple #[.slice none 0 0,.int .i64 c])
theorem TL(b off len cap:Nat)(ad:Option Addr)(zs:List Int)(had:0<len->ad=some ⟨b,off,none⟩)(hlc:len<=cap)(hcap:cap<9223372036854775808/\len<1000000000000)(hz:∀i,0<=zs.getD i 0/\zs.getD i 0<18446744073709551616)(w:World)(hW:bC w b off len zs):
  Calls Tryz.prog 107 #[.slice ad len cap] w λe W'=>jk (w.heap.size+6) (aV oL zs len (len+1) 0 0 []) e W'/\Below w.heap.size w W':=by
 have hwk:=walk_any b off len cap ad zs .nilFunc (λ_ _=>True) oL none (Lr b off len cap zs (by omega) hz) had hlc hcap hz (.inl rfl) w hW trivial (λr e=>by cases e) (λ_ _ _ _ _=>trivial)
 rcases hr:aV oL zs len (len+1) 0 0 []with⟨l,k⟩|⟨c,k⟩
 ·rw[hr]at hwk
  have HW:=Lib.hid hwk
  clear hwk hr hW hz
  go_enter Tryz.func107,Tryz.ntmps107
  go_wp2_with fail
  refine HW.out.mono ?_
  rintro e W' ⟨hg,_,v,rfl,ho⟩
  go_wp2_with fail
  go_ret2
  exact⟨⟨v,rfl,ho⟩,grown_below hg⟩
 ·rw[hr]at hwk
  have HW:=Lib.hid hwk
  clear hwk hr hW hz
  go_enter Tryz.func107,Tryz.ntmps107
  go_wp2_with fail
  refine HW.out.mono ?_
  rintro e W' ⟨hg,_,rfl⟩
  go_wp2_with fail
  go_ret2
  exact⟨rfl,grown_below hg⟩
def cZ(W:World)(b off n:Nat)(ss:List (Int×Int)):Prop:=∀i,i<n->W.cell? ⟨b,off+i*2,none⟩=some (.int .i64 (ss.getD i (0,0)).1)/\W.cell? ⟨b,off+i*2+1,none⟩=some (.int .i64 (ss.getD i (0,0)).2)
theorem cZ.block{A B:World}{b off n:Nat}{ss:List (Int×Int)}(h:cZ A b off n ss)(hb:B.heap[b]? =A.heap[b]?):cZ B b off n ss:=λi hi=>by
 obtain⟨h1,h2⟩:=h i hi
 exact⟨by rw[<-h1];simp[World.cell?,hb],by rw[<-h2];simp[World.cell?,hb]⟩
theorem cZ.at{A:World}{b off n:Nat}{ss:List (Int×Int)}(h:cZ A b off n ss)(i:Nat)(hi:i<n):A.cell? ⟨b,off+i*2,none⟩=some (.int .i64 (ss.getD i (0,0)).1)/\A.cell? ⟨b,off+i*2+1,none⟩=some (.int .i64 (ss.getD i (0,0)).2):=h i hi
theorem cZ.lt{A:World}{b off n:Nat}{ss:List (Int×Int)}(h:cZ A b off n ss)(h0:0<n):b<A.heap.size:=World.block_lt_of_cell? _ _ (h 0 h0).1
theorem cZ.none(W:World)(b off:Nat)(ss:List (Int×Int)):cZ W b off 0 ss:=λi hi=>absurd hi (Nat.not_lt_zero _)
attribute [irreducible] cZ
structure gW(Bt Bs sb so n scap:Nat)(vJ:Option Addr)(ss:List (Int×Int))(k:Nat)(W:World):Prop where
 kn:k<=n
 t:aj W Bt #[.int .i64 k] 3
 s:aj W Bs #[.slice vJ n scap] 39
 c:cZ W sb so n ss
 ne:sb≠Bt\/n=0
theorem jr{w A:World}{row:Option Nat}(h:w.grownBy A row)(p:Addr)(hp:w.heap.size<=p.block\/some p.block=row)(v:Value):w.grownBy (A.setCell p v) row:=
 ⟨h.os,h.tape,h.output,by simpa using h.size,λk hk hne=>(Below.heap_setCell A p v k (λe=>hp.elim (λh1=>by omega) (λh1=>hne (by rw[e];exact h1)))).trans (h.block k hk hne)⟩
theorem TM(Bt Bs sb so n scap:Nat)(vJ:Option Addr)(ss:List (Int×Int))(k:Nat)(w:World)(h:gW Bt Bs sb so n scap vJ ss k w)(hts:Bt≠Bs)(had:0<n->vJ=some ⟨sb,so,none⟩)(hn:n<1000000000000):
  Calls Tryz.prog 123 #[.pointer (some ⟨Bt,0,none⟩),.pointer (some ⟨Bs,0,none⟩)] w λe W'=>w.grownBy W' (some Bt)/\
   ((k<n/\bJ (ss.getD k (0,0)).1 (ss.getD k (0,0)).2=true/\e=.returned (.agg #[.int .i64 (ss.getD k (0,0)).1,.int .i64 (ss.getD k (0,0)).2])/\gW Bt Bs sb so n scap vJ ss (k+1) W')\/
    (¬(k<n/\bJ (ss.getD k (0,0)).1 (ss.getD k (0,0)).2=true)/\e=.panicked [{v:=rF 3,recovered:=false}]/\gW Bt Bs sb so n scap vJ ss k W')):=by
 obtain⟨hkn,ht,hs,hc,hne⟩:=h
 obtain⟨lt,ct,ft⟩:=ht.get
 obtain⟨ls,cs,fs⟩:=hs.get
 have ct0:=ct 0
 have cs0:=cs 0
 have q0:Bt≠w.heap.size:=by omega
 have q1:Bs≠w.heap.size:=by omega
 by_cases hk:k<n
 ·obtain rfl:=had (by omega)
  obtain⟨c1,c2⟩:=hc.at k hk
  generalize(ss.getD k (0,0)).1=S at*
  generalize(ss.getD k (0,0)).2=Pp at*
  have hkb:((k:Int)==(n:Int))=false:=beq_eq_false_iff_ne.mpr (by omega)
  have hsb:sb<w.heap.size:=hc.lt (by omega)
  go_enter Tryz.func123,Tryz.ntmps123
  go_wp2_with fail
  refine(kY S Pp _).mono ?_;rintro e w1 ⟨rfl,k1⟩
  have ht1:aj w1 Bt #[.int .i64 k] 3:=(ht.alloc _).tr k1
  have hs1:aj w1 Bs #[.slice (some ⟨sb,so,none⟩) n scap] 39:=(hs.alloc _).tr k1
  have hr1:aj w1 w.heap.size #[.int .i64 0,.int .i64 0] 56:=aj.tr (by exact bk) k1
  have hc1:cZ w1 sb so n ss:=hc.block ((k1.block sb (by simp;omega)).trans (Below.heap_alloc _ _ _ hsb))
  have hbb:Below w.heap.size w w1:=by exact bm
  have d1:=ah hbb c1
  have d2:=ah hbb c2
  rcases hrb:bJ S Pp with _|_
  ·go_wp2_with fail
   refine⟨rfl,below_grown hbb _,.inr ⟨by simp[hrb],rfl,⟨hkn,ht1,hs1,hc1,hne⟩⟩⟩
  ·clear lt ct ft ls cs fs ct0 cs0
   obtain⟨lt,ct,ft⟩:=ht1.get
   obtain⟨ls,cs,fs⟩:=hs1.get
   obtain⟨lr,cr,fr⟩:=hr1.get
   have ct0:=ct 0
   have cs0:=cs 0
   go_wp2_with fail
   refine bodyPost_ret (v:=.agg #[.int .i64 S,.int .i64 Pp]) (by simp only[results,Tryz.results123];go_simp) rfl ⟨?_,.inl ⟨hk,hrb,rfl,⟨by omega,?_,?_,?_,hne⟩⟩⟩
   ·exact jr (jr (jr (below_grown hbb _) _ (.inr rfl) _) _ (.inl (Nat.le_refl _)) _) _ (.inl (Nat.le_refl _)) _
   ·have:=((ht1.set 0 (.int .i64 ((k:Int)+1))).other (p:=⟨w.heap.size,0,none⟩) q0 (.int .i64 S)).other (p:=⟨w.heap.size,1,none⟩) q0 (.int .i64 Pp)
    simpa using this
   ·exact((hs1.other (p:=⟨Bt,0,none⟩) (λe=>hts e.symm) _).other (p:=⟨w.heap.size,0,none⟩) q1 _).other (p:=⟨w.heap.size,1,none⟩) q1 _
   ·refine hc1.block ((Below.heap_setCell _ _ _ _ (by show sb≠w.heap.size;omega)).trans ((Below.heap_setCell _ _ _ _ (by show sb≠w.heap.size;omega)).trans (Below.heap_setCell _ _ _ _ ?_)))
    rcases hne with h|h
    ·exact h
    ·omega
 ·have hkb:((k:Int)==(n:Int))=true:=by simp;omega
  go_enter Tryz.func123,Tryz.ntmps123
  go_wp2_with fail
  refine⟨rfl,below_grown (by exact bm) _,.inr ⟨λq=>hk q.1,rfl,⟨hkn,ht.alloc _,hs.alloc _,?_,hne⟩⟩⟩
  rcases Nat.eq_zero_or_pos n with h0|h0
  ·subst h0;exact cZ.none _ _ _ _
  ·exact hc.block (Below.heap_alloc _ _ _ (hc.lt h0))
end Go.Proofs.YtpgjploaliefdaaGreat.ob
namespace Go.Proofs.YtpgjploaliefdaaGreat.ob
open Go.RowKit Go.Shelf hd rt
set_option linter.unusedVariables false
set_option linter.unusedSimpArgs false
def jP(n:Nat)(ss:List (Int×Int))(k pos:Nat)(x:Int):Option (Ob×Nat):=
 if mD x=0 then(if k<n/\bJ (ss.getD k (0,0)).1 (ss.getD k (0,0)).2=true then some (⟨pos,(ss.getD k (0,0)).1,(ss.getD k (0,0)).2,true,gB x⟩,k+1)else none)else oL k pos x
theorem gW.grown{Bt Bs sb so n scap k:Nat}{vJ:Option Addr}{ss:List (Int×Int)}{A B:World}(h:gW Bt Bs sb so n scap vJ ss k A)(hg:A.grownBy B none):gW Bt Bs sb so n scap vJ ss k B:=by
 have hb:=grown_below hg
 refine⟨h.kn,h.t.tr hb,h.s.tr hb,?_,h.ne⟩
 rcases Nat.eq_zero_or_pos n with h0|h0
 ·subst h0;exact cZ.none _ _ _ _
 ·exact h.c.block (hb.block sb (h.c.lt h0))
theorem gW.set{Bt Bs sb so n scap k:Nat}{vJ:Option Addr}{ss:List (Int×Int)}{A:World}(h:gW Bt Bs sb so n scap vJ ss k A)(p:Addr)(hp:p.block≠Bt/\p.block≠Bs/\(0<n->p.block≠sb))(v:Value):gW Bt Bs sb so n scap vJ ss k (A.setCell p v):=by
 refine⟨h.kn,h.t.other (λe=>hp.1 e.symm) _,h.s.other (λe=>hp.2.1 e.symm) _,?_,h.ne⟩
 rcases Nat.eq_zero_or_pos n with h0|h0
 ·subst h0;exact cZ.none _ _ _ _
 ·exact h.c.block (Below.heap_setCell _ _ _ _ (λe=>hp.2.2 h0 e.symm))
theorem Zy{Bt Bs sb n m j:Nat}(h1:Bt<m)(h2:Bs<m)(h3:0<n->sb<m)(h:m<=j):j≠Bt/\j≠Bs/\(0<n->j≠sb):=⟨by omega,by omega,λq=>by have:=h3 q;omega⟩
theorem TP{x:Int}(h:¬mD x=0):(mD x==0)=false:=by simp[h]
set_option maxHeartbeats 2000000 in
theorem PD(Bt Bs sb so n scap:Nat)(vJ:Option Addr)(ss:List (Int×Int))(hts:Bt≠Bs)(had:0<n->vJ=some ⟨sb,so,none⟩)(hn:n<1000000000000)
  (b off len cap pos k:Nat) (x:Int) (w:World) (hbt:b≠Bt) (hp:pos<len) (hl:len<9223372036854775808) (hx:w.cell? ⟨b,off+pos,none⟩=some (.int .u64 x)) (h1:0<=x) (h2:x<18446744073709551616) (hT:gW Bt Bs sb so n scap vJ ss k w):
  Calls Tryz.prog 136 #[.slice (some ⟨b,off,none⟩) len cap,.int .i64 pos,.func (.func 123) #[] #[.pointer (some ⟨Bt,0,none⟩),.pointer (some ⟨Bs,0,none⟩)]] w λe W'=>w.grownBy W' (some Bt)/\
   ((∃o k',jP n ss k pos x=some (o,k')/\e=.returned (oV o)/\gW Bt Bs sb so n scap vJ ss k' W')\/(jP n ss k pos x=none/\e=.panicked [{v:=rF 3,recovered:=false}]/\gW Bt Bs sb so n scap vJ ss k W')):=by
 have hlt:b<w.heap.size:=World.block_lt_of_cell? _ _ hx
 have hn0:b≠w.heap.size:=by omega
 have hn1:b≠w.heap.size+1:=by omega
 have hs0:b<w.heap.size+1:=by omega
 have hs1:b<w.heap.size+1+1:=by omega
 have hnn:=WU
 have htl:=hT.t.lt
 have hsl:=hT.s.lt
 have hcl:0<n->sb<w.heap.size:=λh=>hT.c.lt h
 have afN:=Lib.hid hcl
 clear hcl
 by_cases hE:mD x=0
 ·have hE2:(mD x==0)=true:=by simp[hE]
  have HB:=Lib.hid (show jP n ss k pos x=if k<n/\bJ (ss.getD k (0,0)).1 (ss.getD k (0,0)).2=true then some (⟨pos,(ss.getD k (0,0)).1,(ss.getD k (0,0)).2,true,gB x⟩,k+1)else none from by unfold jP;rw[if_pos hE])
  go_enter Tryz.func136,Tryz.ntmps136
  go_wp2_with fail
  refine(lJ x _ h1 h2).mono ?_;rintro e ww ⟨rfl,rfl⟩
  go_wp2_with fail
  have hT2:=(hT.grown (World.grownBy_alloc w (.cells #[.int .i64 0,.int .i64 0,.int .i64 0,.bool false,.int .u64 0] 58) none)).grown (World.grownBy_alloc _ (.cells #[.int .i64 pos,.int .i64 0,.int .i64 0,.bool true,.int .u64 (gB x)] 58) none)
  have hg0:w.grownBy ((w.alloc (.cells #[.int .i64 0,.int .i64 0,.int .i64 0,.bool false,.int .u64 0] 58)).alloc (.cells #[.int .i64 pos,.int .i64 0,.int .i64 0,.bool true,.int .u64 (gB x)] 58)) (some Bt):=mQ (World.grownBy_alloc _ _ _) _
  have hr0:aj ((w.alloc (.cells #[.int .i64 0,.int .i64 0,.int .i64 0,.bool false,.int .u64 0] 58)).alloc (.cells #[.int .i64 pos,.int .i64 0,.int .i64 0,.bool true,.int .u64 (gB x)] 58)) w.heap.size #[.int .i64 0,.int .i64 0,.int .i64 0,.bool false,.int .u64 0] 58:=(aj.new _ _ _).alloc _
  have ho0:aj ((w.alloc (.cells #[.int .i64 0,.int .i64 0,.int .i64 0,.bool false,.int .u64 0] 58)).alloc (.cells #[.int .i64 pos,.int .i64 0,.int .i64 0,.bool true,.int .u64 (gB x)] 58)) (w.heap.size+1) #[.int .i64 pos,.int .i64 0,.int .i64 0,.bool true,.int .u64 (gB x)] 58:=aj.mk (by simp)
  refine(TM Bt Bs sb so n scap vJ ss k _ hT2 hts had hn).mono ?_
  rintro e w1 ⟨hg1,⟨hk,hrb,rfl,hT1⟩|⟨hk,rfl,hT1⟩⟩
  ·have hB2:Hid (jP n ss k pos x=some (⟨pos,(ss.getD k (0,0)).1,(ss.getD k (0,0)).2,true,gB x⟩,k+1)):=by show _=_;rw[HB.out,if_pos ⟨hk,hrb⟩]
   generalize(ss.getD k (0,0)).1=S at*
   generalize(ss.getD k (0,0)).2=Pp at*
   have hgg:=Lib.hid (hg0.trans hg1)
   have hr1:aj w1 w.heap.size #[.int .i64 0,.int .i64 0,.int .i64 0,.bool false,.int .u64 0] 58:=aj.of ((hg1.block _ hr0.lt (λe=>by cases e;omega)).trans hr0.raw)
   have ho1:aj w1 (w.heap.size+1) #[.int .i64 pos,.int .i64 0,.int .i64 0,.bool true,.int .u64 (gB x)] 58:=aj.of ((hg1.block _ ho0.lt (λe=>by cases e;omega)).trans ho0.raw)
   have hTT:=Lib.hid hT1
   clear hg0 hg1 hT2 hT1 hr0 ho0 hT
   obtain⟨lr,cr,fr⟩:=hr1.get
   obtain⟨lo,co,fo⟩:=ho1.get
   go_wp2_with fail
   refine bodyPost_ret (v:=oV ⟨pos,S,Pp,true,gB x⟩) (by simp only[results,Tryz.results136];go_simp;rfl) rfl ⟨?_,.inl ⟨_,_,hB2.out,rfl,?_⟩⟩
   ·repeat(first|with_reducible exact hgg.out|(with_reducible refine jr ?_ _ (.inl (by first|exact Nat.le_refl _|exact Nat.le_succ _)) _))
   ·repeat(first|with_reducible exact hTT.out|(with_reducible refine gW.set ?_ _ (Zy htl hsl afN.out (by first|exact Nat.le_refl _|exact Nat.le_succ _)) _))
  ·have hB2:jP n ss k pos x=none:=by rw[HB.out,if_neg hk]
   go_wp2_with fail
   exact⟨rfl,hg0.trans hg1,.inr ⟨hB2,rfl,hT1⟩⟩
 ·have hE2:=TP hE
  have HB:=Lib.hid (show jP n ss k pos x=oL k pos x from by unfold jP;rw[if_neg hE])
  rcases hu:jF x with _|_
  ·have KW:rE x=3:=by simp[rE,hu]
   go_enter Tryz.func136,Tryz.ntmps136
   go_wp2_with fail
   refine(lJ x _ h1 h2).mono ?_;rintro e ww ⟨rfl,rfl⟩
   go_wp2_with fail
   refine(mM x _ h1 h2).mono ?_;rintro e w1 ⟨rfl,k1⟩
   rw[KW]
   go_wp2_with fail
   refine⟨rfl,?_,.inr ⟨by rw[HB.out];unfold oL;rw[if_neg (by rw[hu];simp)],rfl,?_⟩⟩
   ·refine below_grown ?_ _
    exact bm
   ·refine hT.grown (below_grown ?_ none)
    exact bm
  ·have KW:rE x=0:=by simp[rE,hu]
   go_enter Tryz.func136,Tryz.ntmps136
   go_wp2_with fail
   refine(lJ x _ h1 h2).mono ?_;rintro e ww ⟨rfl,rfl⟩
   go_wp2_with fail
   refine(mM x _ h1 h2).mono ?_;rintro e w1 ⟨rfl,k1⟩
   rw[KW]
   have Ko:aj w1 (w.heap.size+1) #[.int .i64 pos,.int .i64 0,.int .i64 0,.bool false,.int .u64 0] 58:=aj.tr (by exact bk) k1
   have Kr:aj w1 w.heap.size #[.int .i64 0,.int .i64 0,.int .i64 0,.bool false,.int .u64 0] 58:=aj.tr (by exact bk) k1
   have hbb:Below w.heap.size w w1:=by exact bm
   have hTT:=Lib.hid (hT.grown (below_grown hbb none))
   obtain⟨lo,co,fo⟩:=Ko.get
   obtain⟨lr,cr,fr⟩:=Kr.get
   go_wp2_with fail
   refine bodyPost_ret (v:=oV ⟨pos,rD x,BL x,false,0⟩) (by simp only[results,Tryz.results136];go_simp;rfl) rfl ⟨?_,.inl ⟨_,k,by rw[HB.out];unfold oL;rw[if_pos hu],rfl,?_⟩⟩
   ·refine below_grown ?_ _
    exact bm
   ·refine hT.grown (below_grown ?_ none)
    exact bm
theorem Lu(Bt Bs sb so n scap:Nat)(vJ:Option Addr)(ss:List (Int×Int))(hts:Bt≠Bs)(had:0<n->vJ=some ⟨sb,so,none⟩)(hn:n<1000000000000)
  (b off len cap:Nat) (zs:List Int) (hbt:b≠Bt) (hl:len<9223372036854775808) (hz:∀i,0<=zs.getD i 0/\zs.getD i 0<18446744073709551616):
  CS b off len cap zs (.func (.func 123) #[] #[.pointer (some ⟨Bt,0,none⟩),.pointer (some ⟨Bs,0,none⟩)]) (gW Bt Bs sb so n scap vJ ss) (jP n ss) (some Bt):=by
 refine⟨λk A B h hg=>h.grown hg,λk pos x o k' h=> ?_,λk pos W hp hT hw=>PD Bt Bs sb so n scap vJ ss hts had hn b off len cap pos k _ W hbt hp hl (hw.at pos hp) (hz pos).1 (hz pos).2 hT⟩
 unfold jP at h
 split at h
 ·split at h
  ·rename_i hu
   cases h
   have h2:=kJ hu.2
   exact⟨rfl,h2.1,h2.2.1⟩
  ·cases h
 ·unfold oL at h
  split at h
  ·rename_i hu
   cases h
   exact⟨rfl,rX hu⟩
  ·cases h
theorem xk{bg:Nat->Nat->Int->Option (Ob×Nat)}{zs:List Int}{len:Nat}{c:Int}{k2:Nat}:∀{f k pos:Nat}{acc:List Ob},aV bg zs len f k pos acc=.err c k2->c≠0
 |0,k,pos,acc,h=>by cases h;decide
 |f+1,k,pos,acc,h=>by
  by_cases hp:pos<len
  ·rw[fC hp]at h
   split at h
   ·cases h;decide
   ·split at h
    ·cases h;decide
    ·split at h
     ·exact xk h
     ·cases h;decide
  ·rw[gQ hp]at h;cases h
def jv(n:Nat):TI->TI
 | .ok l k=>if k<n then .err 3 k else .ok l k
 | .err c k=>.err c k
theorem gW.keep{Bt Bs sb so n scap k:Nat}{vJ:Option Addr}{ss:List (Int×Int)}{A B:World}{m:Nat}(h:gW Bt Bs sb so n scap vJ ss k A)(h1:Bt<m)(h2:Bs<m)(h3:0<n->sb<m)(hb:∀j,j<m->B.heap[j]? =A.heap[j]?):gW Bt Bs sb so n scap vJ ss k B:=by
 refine⟨h.kn,aj.of ((hb _ h1).trans h.t.raw),aj.of ((hb _ h2).trans h.s.raw),?_,h.ne⟩
 rcases Nat.eq_zero_or_pos n with h0|h0
 ·subst h0;exact cZ.none _ _ _ _
 ·exact h.c.block (hb _ (h3 h0))
theorem IZ(b off len cap:Nat)(ad:Option Addr)(zs:List Int)(had:0<len->ad=some ⟨b,off,none⟩)(hlc:len<=cap)(hcap:cap<9223372036854775808/\len<1000000000000)(hz:∀i,0<=zs.getD i 0/\zs.getD i 0<18446744073709551616)
  (sb so n scap:Nat) (vJ:Option Addr) (ss:List (Int×Int)) (TQ:0<n->vJ=some ⟨sb,so,none⟩) (hn:n<1000000000000) (w:World) (hW:bC w b off len zs) (hS:cZ w sb so n ss) (hb0:b<w.heap.size) (hsb0:sb<w.heap.size):
  Calls Tryz.prog 109 #[.slice ad len cap,.slice vJ n scap] w λe W'=>(∃B,w.heap.size<=B/\jk B (jv n (aV (jP n ss) zs len (len+1) 0 0 [])) e W')/\Below w.heap.size w W':=by
 have hmf:∀(fn:Fn)(first cap:Array Value)(w:World),(Instr.makeFunc fn first cap).run Tryz.prog w=.ok (.func fn first cap) w:=λ_ _ _ _=>rfl
 have HW:=Lib.hid hW
 have HS:=Lib.hid hS
 have HZ:=Lib.hid hz
 have HA:=Lib.hid had
 have Zz:=Lib.hid TQ
 clear hW hS hz had TQ
 go_enter Tryz.func109,Tryz.ntmps109
 go_wp2_with fail
 obtain⟨W2,hW2⟩:∃W2,((w.alloc (.cells #[.slice vJ n scap] 39)).alloc (.cells #[.int .i64 0] 3))=W2:=⟨_,rfl⟩
 rw[hW2]
 have hbel:Below w.heap.size w W2:=by rw[<-hW2];exact bm
 have bs:aj W2 w.heap.size #[.slice vJ n scap] 39:=by rw[<-hW2];exact(aj.new _ _ _).alloc _
 have bt:aj W2 (w.heap.size+1) #[.int .i64 0] 3:=by rw[<-hW2];exact aj.mk (by simp)
 have hsz:W2.heap.size=w.heap.size+2:=by rw[<-hW2];simp
 clear hW2
 have hwk:=walk_any b off len cap ad zs _ (gW (w.heap.size+1) w.heap.size sb so n scap vJ ss) (jP n ss) (some (w.heap.size+1)) (Lu (w.heap.size+1) w.heap.size sb so n scap vJ ss (by omega) Zz.out hn b off len cap zs (by omega) (by omega) HZ.out)
  HA.out hlc hcap HZ.out (.inr ⟨_,_,_,rfl⟩) W2 (HW.out.block (hbel.block b hb0)) ⟨Nat.zero_le _,bt,bs,HS.out.block (hbel.block sb hsb0),.inl (by omega)⟩ (λr e=>by cases e;exact⟨by omega,by omega⟩)
  (λk A B h hb=>h.keep (m:=W2.heap.size) (by omega) (by omega) (λ_=>by omega) hb)
 have hfin:∀W',W2.grownBy W' (some (w.heap.size+1))->Below w.heap.size w W':=λW' hg=>⟨hg.os.trans hbel.os,hg.tape.trans hbel.tape,hg.output.trans hbel.output,Nat.le_trans hbel.size hg.size,λk hk=>(hg.block k (by omega) (λe=>by cases e;omega)).trans (hbel.block k hk)⟩
 have HF:=Lib.hid hfin
 clear hfin
 rcases hr:aV (jP n ss) zs len (len+1) 0 0 []with⟨l,k⟩|⟨c,k⟩
 ·rw[hr]at hwk
  have HK:=Lib.hid hwk
  have HR:=Lib.hid hr
  clear hwk hr
  refine HK.out.mono ?_
  rintro e W' ⟨hg,hst,v,rfl,ho⟩
  have HB:=Lib.hid (HF.out W' hg)
  obtain⟨lt,ct,ft⟩:=hst.t.get
  obtain⟨ls,cs,fs⟩:=hst.s.get
  have ct0:=ct 0
  have cs0:=cs 0
  have HO:=Lib.hid ho
  clear hg ho hst
  by_cases hkn:k<n
  ·have hk2:(k:Int)<(n:Int):=by omega
   go_wp2_with fail
   go_ret2
   exact⟨⟨w.heap.size,Nat.le_refl _,by rw[HR.out];unfold jv;dsimp only;rw[if_pos hkn];rfl⟩,HB.out⟩
  ·have hk2:¬(k:Int)<(n:Int):=by omega
   go_wp2_with fail
   go_ret2
   exact⟨⟨W2.heap.size+6,by omega,by rw[HR.out];unfold jv;dsimp only;rw[if_neg hkn];exact⟨v,rfl,HO.out⟩⟩,HB.out⟩
 ·rw[hr]at hwk
  have HK:=Lib.hid hwk
  clear hwk
  have hce:Hid (c≠0):=xk hr
  have HR:=Lib.hid hr
  clear hr
  have hcb:(c==0)=false:=by have:=hce.out;simp[this]
  refine HK.out.mono ?_
  rintro e W' ⟨hg,hst,rfl⟩
  have HB:=Lib.hid (HF.out W' hg)
  clear hg hst
  go_wp2_with fail
  go_ret2
  exact⟨⟨w.heap.size,Nat.le_refl _,by rw[HR.out];rfl⟩,HB.out⟩
end Go.Proofs.YtpgjploaliefdaaGreat.ob
namespace Go.Proofs.YtpgjploaliefdaaGreat.ob
open Go.RowKit hd
set_option linter.unusedVariables false
set_option linter.unusedSimpArgs false
theorem tK(x:Int)(w:World)(h1:0<=x)(h2:x<18446744073709551616):
  Calls Tryz.prog 71 #[.int .u64 x] w λe w'=>e=.returned (.bool (oO x))/\w=w':=by
 have HP:=Lib.hid (Oa x)
 go_enter Tryz.func71,Tryz.ntmps71
 go_wp2_with fail
 refine(iT x _ h1 h2).mono ?_;rintro e ww ⟨rfl,rfl⟩
 generalize mD x=E at*
 go_wp2_with fail
 all_goals go_ret
 all_goals (refine⟨?_,rfl⟩;rw[HP.out];simp_all;try rw[Bool.eq_iff_iff];try simp_all)
def rowOk(o:Ob)(ys:List Int)(k:Nat):Prop:=∀i,i<k->gU o i (ys.getD i 0)=true
theorem LC{o:Ob}{ys:List Int}{k:Nat}(h:rowOk o ys k):gU o k (ys.getD k 0)=true->rowOk o ys (k+1):=λg i hi=>by
 by_cases e:i<k
 ·exact h i e
 ·obtain rfl:i=k:=by omega
  exact g
theorem PG{o:Ob}{ys:List Int}{k n:Nat}(h:k<n):gU o k (ys.getD k 0)=false->¬rowOk o ys n:=λg q=>by
 have:=q k h;rw[g]at this;cases this
def PI(o:Ob)(ys:List Int)(S:Nat)(e:Ending):Prop:=(rowOk o ys S/\e=.returned (.int .i64 0))\/(¬rowOk o ys S/\e=.returned (.int .i64 3))
set_option maxHeartbeats 2000000 in
theorem PL(b off S c:Nat)(ad:Option Addr)(o:Ob)(ys:List Int)(w:World)(hS:S<1000000000000)(had:0<S->ad=some ⟨b,off,none⟩)(hx:bC w b off S ys)(hz:∀i,0<=ys.getD i 0/\ys.getD i 0<18446744073709551616):
  Calls Tryz.prog 73 #[.slice ad S c,oV o] w λe w'=>PI o ys S e/\Below w.heap.size w w':=by
 obtain⟨p0,s,p,g,t⟩:=o
 have HX:=Lib.hid hx
 have HZ:=Lib.hid hz
 have HA:=Lib.hid had
 clear hx hz had
 unfold oV
 go_enter Tryz.func73,Tryz.ntmps73
 go_wp2_with fail
 go_loop [5] (λi=>∃k:Nat,k<=S/\i=.int .i64 k/\Hid (rowOk ⟨p0,s,p,g,t⟩ ys k)) (λi=>S-(intOf i).toNat)
 case atStart=>exact⟨0,Nat.zero_le _,rfl,λi hi=>by omega⟩
 case round=>
  obtain⟨k,hk,rfl,hok⟩:=hrel
  by_cases hlk:k<S
  ·obtain rfl:=HA.out (by omega)
   have hxk:=HX.out.at k hlk
   have hbl:b<w.heap.size:=HX.out.lt (by omega)
   have hb0:b≠w.heap.size:=by omega
   have rU:=HZ.out k
   have HG:=Lib.hid (LC (o:=⟨p0,s,p,g,t⟩) (ys:=ys) hok.out)
   have HB:=Lib.hid (PG (o:=⟨p0,s,p,g,t⟩) (ys:=ys) (n:=S) hlk)
   generalize ys.getD k 0=x at*
   cases g with
   |true=>
    by_cases hx0:x=0
    ·have hxb:(x==0)=true:=by simp[hx0]
     subst hx0
     by_cases hkp:(k:Int)<p
     ·have hkd:decide ((k:Int)<p)=true:=decide_eq_true hkp
      have hp0:oO 0=true:=by decide
      go_wp2_with fail
      refine(tK 0 _ (by omega) (by omega)).mono ?_;rintro e ww ⟨rfl,rfl⟩
      rw[hp0]
      go_wp2_with fail
      exact⟨⟨k+1,by omega,by go_num,HG.out (by simp[gU])⟩,by simp[intOf];omega⟩
     ·have hkd:decide ((k:Int)<p)=false:=decide_eq_false hkp
      go_wp2_with fail
      exact⟨⟨k+1,by omega,by go_num,HG.out (by simp[gU])⟩,by simp[intOf];omega⟩
    ·have hxb:(x==0)=false:=by simp[hx0]
     go_wp2_with fail
     go_ret
     refine⟨.inr ⟨HB.out (by simp[gU,hx0]),rfl⟩,?_⟩
     exact bm
   |false=>
    by_cases hkp:(k:Int)<p
    ·have hkd:decide ((k:Int)<p)=true:=decide_eq_true hkp
     go_wp2_with fail
     refine(tK x _ rU.1 rU.2).mono ?_;rintro e ww ⟨rfl,rfl⟩
     rcases hpb:oO x with _|_
     ·go_wp2_with fail
      go_ret
      refine⟨.inr ⟨HB.out (by simp[gU,hkp,hpb]),rfl⟩,?_⟩
      exact bm
     ·go_wp2_with fail
      exact⟨⟨k+1,by omega,by go_num,HG.out (by simp[gU,hpb])⟩,by simp[intOf];omega⟩
    ·have hkd:decide ((k:Int)<p)=false:=decide_eq_false hkp
     go_wp2_with fail
     exact⟨⟨k+1,by omega,by go_num,HG.out (by simp[gU,hkp])⟩,by simp[intOf];omega⟩
  ·obtain rfl:k=S:=by omega
   go_wp2_with fail
   go_ret
   refine⟨.inl ⟨hok.out,rfl⟩,?_⟩
   exact bm
end Go.Proofs.YtpgjploaliefdaaGreat.ob
