/- Small steps of one who only leaves. No conditions. -/
import Derived.Test.YtlncengggmgdgaaGreatWl
import Derived.Conc.CompanyDraw
set_option linter.unusedVariables false
set_option linter.unusedSimpArgs false
set_option maxRecDepth 100000
namespace Go.Proofs.YtlncengggmgdgaaGreat.par
open Go Go.Conc Go.RowKit Go.Conc.Lib Go.ConcR.Gen Go.ConcN.Gen
open Go.ConcR (DC0)
section
variable {P : Program} {b : Frame} {a : Act} {k : List Item} {cs : List Frame} {n d : Nat}
theorem PK{x y:Code}(h:QuitsD P n d (G (b.at a (.code x:: .code y::k)) cs)):QuitsD P (n+1) d (G (b.at a (.code (.seq x y)::k)) cs):=.ctl rfl (λ_=>stepG_seq) h
theorem pX(h:QuitsD P n d (G (b.at a k) cs)):QuitsD P (n+1) d (G (b.at a (.code .skip::k)) cs):=.ctl rfl (λ_=>stepG_skip) h
theorem sW{id:Nat}(h:QuitsD P n d (G (b.at a k) cs)):QuitsD P (n+1) d (G (b.at a (.inBlock id::k)) cs):=.ctl rfl (λ_=>stepG_inBlock) h
theorem wO{c:Code}(h:QuitsD P n d (G (b.at a (.code c:: .inLoop c::k)) cs)):QuitsD P (n+1) d (G (b.at a (.inLoop c::k)) cs):=.ctl rfl (λ_=>stepG_inLoop) h
theorem Ap{id:Nat}{k':List Item}(hx:exitTo id k=some k')(h:QuitsD P n d (G (b.at a k') cs)):QuitsD P (n+1) d (G (b.at a (.code (.exit id)::k)) cs):=.ctl rfl (λ_=>stepG_exit hx) h
theorem wP{id:Nat}{ops:Array Oper}(h:QuitsD P n d (G (b.at a (.inRegion ops (List.range ops.size)::k)) cs)):QuitsD P (n+1) d (G (b.at a (.code (.region id ops false)::k)) cs):=.ctl rfl (λ_=>stepG_region) h
theorem rG{ops:Array Oper}(h:QuitsD P n d (G (b.at a k) cs)):QuitsD P (n+1) d (G (b.at a (.inRegion ops []::k)) cs):=.ctl rfl (λ_=>stepG_region_end) h
theorem zo{c:Operand}{x y:Code}{t:Bool}(hc:a.eval c=.bool t)(h:QuitsD P n d (G (b.at a (.code (if t then x else y)::k)) cs)):QuitsD P (n+1) d (G (b.at a (.code (.cond c x y)::k)) cs):=.ctl rfl (λ_=>stepG_cond hc) h
theorem PL(h:QuitsD P n d (G {b.at a (.code .ret::k)with mode:=.returning} cs)):QuitsD P (n+1) d (G (b.at a (.code .ret::k)) cs):=.ctl rfl (λ_=>stepG_ret') h
theorem wQ(h:QuitsD P n d (G {b.at a []with mode:=.returning} cs)):QuitsD P (n+1) d (G (b.at a []) cs):=.ctl rfl (λ_=>stepG_end) h
theorem Aq{ops:Array Oper}{i:Nat}{rest:List Nat}{o:Oper}{v:Value}(ho:ops[i]? =some o)(hw:Region.wanted o (yielded ops a.tmps)=true)(hk:b.kind≠ .early)
  (hr:∀w,(execOp a.eval o).run P w=.ok (.value v) w) (he:∀w,(execOp a.eval o).events P w #[]= #[])
  (hq:QuitsD P n d (G (b.at (a.put o.dst v) (.inRegion ops rest::k)) cs)):QuitsD P (n+1) d (G (b.at a (.inRegion ops (i::rest)::k)) cs):=.value v ho hw hk hr he hq
theorem pY{ops:Array Oper}{i:Nat}{rest:List Nat}{o:Oper}(ho:ops[i]? =some o)(hw:Region.wanted o (yielded ops a.tmps)=false)
  (hq:QuitsD P n d (G (b.at (a.put o.dst undef) (.inRegion ops rest::k)) cs)):QuitsD P (n+1) d (G (b.at a (.inRegion ops (i::rest)::k)) cs):=.unwanted ho hw hq
theorem ae7{P:Program}:∀{n m d:Nat}{g:Goroutine},QuitsD P n d g->n<=m->QuitsD P m d g:=by
 intro n
 induction n with
 |zero=>
  intro m d g h _
  cases m with
  |zero=>exact h
  |succ m=>exact .inl h
 |succ n ih=>
  intro m d g h hl
  cases m with
  |zero=>omega
  |succ m=>
   rcases h with h|⟨a,g',es,b,c,e⟩
   ·exact .inl h
   ·exact .inr ⟨a,g',es,b,c,ih e (by omega)⟩
def dw(P:Program)(main:Bool)(I:World->Prop)(D:World->World->Array Event->Prop)(S:Goroutine->World->Prop)(n:Nat)(g:Goroutine):Prop:=∀w,I w->Goes P main (λw w₁=>I w->I w₁) D S n g w
abbrev wR(P:Program)(main:Bool)(I:World->Prop)(S:Goroutine->World->Prop)(n:Nat)(g:Goroutine):Prop:=dw P main I DC0 S n g
class Still (D:World->World->Array Event->Prop):Prop where
 still:∀w,D w w #[]
instance:Still DC0:=⟨λ_=>⟨rfl,rfl⟩⟩
section
variable {main : Bool} {I : World → Prop} {D : World → World → Array Event → Prop} [Still D] {S : Goroutine → World → Prop}
omit [Still D] in
theorem dw.halt{g:Goroutine}(h:∀w,I w->S g w):dw P main I D S n g:=λw hw=>Goes.stop λw₁ h₁=>h w₁ (h₁ hw)
theorem dw.more{g g':Goroutine}(hr:g.status=.running)(hs:∀w,I w->stepG P main g w=.go g' w #[])(h:dw P main I D S n g'):dw P main I D S (n+1) g:=λw hw=>Goes.step hr λw₁ h₁=>by
 rw[hs w₁ (h₁ hw),goes_go]
 exact⟨Still.still _,h w₁ (h₁ hw)⟩
theorem bn{x y:Code}(h:dw P main I D S n (G (b.at a (.code x:: .code y::k)) cs)):dw P main I D S (n+1) (G (b.at a (.code (.seq x y)::k)) cs):=.more rfl (λ_ _=>stepG_seq) h
theorem aK(h:dw P main I D S n (G (b.at a k) cs)):dw P main I D S (n+1) (G (b.at a (.code .skip::k)) cs):=.more rfl (λ_ _=>stepG_skip) h
theorem bY{id:Nat}{c:Code}(h:dw P main I D S n (G (b.at a (.code c:: .inBlock id::k)) cs)):dw P main I D S (n+1) (G (b.at a (.code (.block id c)::k)) cs):=.more rfl (λ_ _=>stepG_block) h
theorem aT{id:Nat}(h:dw P main I D S n (G (b.at a k) cs)):dw P main I D S (n+1) (G (b.at a (.inBlock id::k)) cs):=.more rfl (λ_ _=>stepG_inBlock) h
theorem gi_loop{c:Code}(h:dw P main I D S n (G (b.at a (.code c:: .inLoop c::k)) cs)):dw P main I D S (n+1) (G (b.at a (.code (.loop c)::k)) cs):=.more rfl (λ_ _=>stepG_loop) h
theorem bD{c:Code}(h:dw P main I D S n (G (b.at a (.code c:: .inLoop c::k)) cs)):dw P main I D S (n+1) (G (b.at a (.inLoop c::k)) cs):=.more rfl (λ_ _=>stepG_inLoop) h
theorem dH{id:Nat}{k':List Item}(hx:exitTo id k=some k')(h:dw P main I D S n (G (b.at a k') cs)):dw P main I D S (n+1) (G (b.at a (.code (.exit id)::k)) cs):=.more rfl (λ_ _=>stepG_exit hx) h
theorem gi_region{id:Nat}{ops:Array Oper}(h:dw P main I D S n (G (b.at a (.inRegion ops (List.range ops.size)::k)) cs)):dw P main I D S (n+1) (G (b.at a (.code (.region id ops false)::k)) cs):=.more rfl (λ_ _=>stepG_region) h
theorem aI{ops:Array Oper}(h:dw P main I D S n (G (b.at a k) cs)):dw P main I D S (n+1) (G (b.at a (.inRegion ops []::k)) cs):=.more rfl (λ_ _=>stepG_region_end) h
theorem aY{c:Operand}{x y:Code}{t:Bool}(hc:a.eval c=.bool t)(h:dw P main I D S n (G (b.at a (.code (if t then x else y)::k)) cs)):dw P main I D S (n+1) (G (b.at a (.code (.cond c x y)::k)) cs):=.more rfl (λ_ _=>stepG_cond hc) h
theorem dM(h:dw P main I D S n (G {b.at a (.code .ret::k)with mode:=.returning} cs)):dw P main I D S (n+1) (G (b.at a (.code .ret::k)) cs):=.more rfl (λ_ _=>stepG_ret') h
theorem bG(h:dw P main I D S n (G {b.at a []with mode:=.returning} cs)):dw P main I D S (n+1) (G (b.at a []) cs):=.more rfl (λ_ _=>stepG_end) h
theorem aH{ops:Array Oper}{i:Nat}{rest:List Nat}{o:Oper}{v:Value}(ho:ops[i]? =some o)(hw:Region.wanted o (yielded ops a.tmps)=true)(hk:b.kind≠ .early)
  (hr:∀w,I w->(execOp a.eval o).run P w=.ok (.value v) w) (he:∀w,I w->(execOp a.eval o).events P w #[]= #[])
  (hq:dw P main I D S n (G (b.at (a.put o.dst v) (.inRegion ops rest::k)) cs)):dw P main I D S (n+1) (G (b.at a (.inRegion ops (i::rest)::k)) cs):=
 .more rfl (λw hI=>by rw[stepG_value ho hw hk (hr w hI)];unfold listed;rw[he w hI,seen_none]) hq
theorem bC{ops:Array Oper}{i:Nat}{rest:List Nat}{o:Oper}(ho:ops[i]? =some o)(hw:Region.wanted o (yielded ops a.tmps)=false)
  (hq:dw P main I D S n (G (b.at (a.put o.dst undef) (.inRegion ops rest::k)) cs)):dw P main I D S (n+1) (G (b.at a (.inRegion ops (i::rest)::k)) cs):=.more rfl (λ_ _=>stepG_unwanted ho hw) hq
theorem Cb{ops:Array Oper}{i:Nat}{rest:List Nat}{o:Oper}{f:FuncId}{ars:Array Operand}{ats:Array TypeId}(ho:ops[i]? =some o)(hw:Region.wanted o (yielded ops a.tmps)=true)(hk:b.kind≠ .early)
  (hop:o.op=.defer {callee:=.value (.func f),args:=ars,argTypes:=ats})
  (hq:dw P main I D S n (G (b.at (Act.put ⟨a.tmps,dcall f (ars.map a.eval)::a.defers⟩ o.dst undef) (.inRegion ops rest::k)) cs)):dw P main I D S (n+1) (G (b.at a (.inRegion ops (i::rest)::k)) cs):=.more rfl (λ_ _=>stepG_defer ho hw hk hop) hq
theorem PN{ops:Array Oper}{i:Nat}{rest:List Nat}{o:Oper}{f:FuncId}{fn:Func}{ars:Array Operand}{ats:Array TypeId}(v:Value)(ho:ops[i]? =some o)(hw:Region.wanted o (yielded ops a.tmps)=true)(hk:b.kind≠ .early)(hop:o.op=.call {callee:=.value (.func f),args:=ars,argTypes:=ats})
  (hf:P.funcs[f]? =some fn) (hname:(fn.name== "runtime.NumGoroutine")=false) (hb:fn.body.isNone=true) (hn:Extern.findNext fn=none) (he:Extern.find fn=some (λ_=>pure v))
  (hq:dw P main I D S n (G (b.at (a.put o.dst v) (.inRegion ops rest::k)) cs)):dw P main I D S (n+1) (G (b.at a (.inRegion ops (i::rest)::k)) cs):=.more rfl (λ_ _=>stepG_entry_pure v ho hw hk hop hf hname hb hn he) hq
theorem jw{ops:Array Oper}{i:Nat}{rest:List Nat}{o:Oper}{f:FuncId}{fn:Func}{c:Code}{args:Array Operand}{ats:Array TypeId}
  (ho:ops[i]? =some o) (hw:Region.wanted o (yielded ops a.tmps)=true) (hk:b.kind≠ .early) (hop:o.op=.call {callee:=.value (.func f),args,argTypes:=ats})
  (hf:P.funcs[f]? =some fn) (hname:(fn.name== "runtime.NumGoroutine")=false) (hb:fn.body=some c)
  (hq:dw P main I D S n (G ((base f).at {tmps:=args.map a.eval++Array.replicate (fn.ntmps-(args.map a.eval).size) undef,defers:=[]} [.code c]) (b.at a (.inRegion ops (i::rest)::k)::cs))):dw P main I D S (n+1) (G (b.at a (.inRegion ops (i::rest)::k)) cs):=
 λw hw'=>Goes.step rfl λw₁ h₁=>goes_call ho hw hk hop hf hname hb ⟨Still.still _,hq w₁ (h₁ hw')⟩
variable {b₀ : Frame} {a₀ : Act}
theorem oL{ops:Array Oper}{i:Nat}{rest:List Nat}{fn:Func}{todo:List Item}(hn:b.kind=.normal)(hd:a.defers=[])(hf:P.funcs[b.fn]? =some fn)(hr:fn.results= #[])
  (hq:dw P main I D S n (G (b₀.at (a₀.put ((ops[i]?).bind (·.dst)) (.tuple #[])) (.inRegion ops rest::k)) cs)):dw P main I D S (n+1) (G {b.at a todo with mode:=.returning} (b₀.at a₀ (.inRegion ops (i::rest)::k)::cs)):=
 λw hw'=>Goes.step rfl λw₁ h₁=>goes_leave0 hn hd hf hr ⟨Still.still _,hq w₁ (h₁ hw')⟩
theorem gK{ops:Array Oper}{i:Nat}{rest:List Nat}{fn:Func}{todo:List Item}{t:Tmp}(hn:b.kind=.normal)(hd:a.defers=[])(hf:P.funcs[b.fn]? =some fn)(hr:fn.results= #[.tmp t])
  (hq:dw P main I D S n (G (b₀.at (a₀.put ((ops[i]?).bind (·.dst)) (a.tmps.getD t undef)) (.inRegion ops rest::k)) cs)):dw P main I D S (n+1) (G {b.at a todo with mode:=.returning} (b₀.at a₀ (.inRegion ops (i::rest)::k)::cs)):=
 λw hw'=>Goes.step rfl λw₁ h₁=>goes_leave1 hn hd hf hr ⟨Still.still _,hq w₁ (h₁ hw')⟩
theorem qg{ops:Array Oper}{i:Nat}{rest:List Nat}{o:Oper}{src dst t:TypeId}{x:Operand}{ad:Addr}(hs:P.underlying src=some (.pointer t))(hds:P.underlying dst=some .unsafePointer)(hsz:(P.info? t).map (λi=>decide (i.size=0))=some false)(hc:∀w,I w->∃v,w.cell? ad=some v)
  (ho:ops[i]? =some o) (hw:Region.wanted o (yielded ops a.tmps)=true) (hk:b.kind≠ .early) (hop:o.op=.convert src dst x) (hx:a.eval x=.pointer (some ad))
  (hq:dw P main I D S n (G (b.at (a.put o.dst (.pointer (some ad))) (.inRegion ops rest::k)) cs)):dw P main I D S (n+1) (G (b.at a (.inRegion ops (i::rest)::k)) cs):=by
 refine aH ho hw hk (λw hI=> ?_) (λw hI=> ?_) hq
 ·obtain⟨v,hv⟩:=hc w hI
  have hcv:=run_convert_to_unsafe (P:=P) hs hds hsz hv
  unfold execOp
  simp[hop,hx,hcv]
 ·obtain⟨v,hv⟩:=hc w hI
  have hce:=λes=>events_convert_to_unsafe (P:=P) hs hds hsz hv es
  unfold execOp
  simp[hop,hx,hce]
omit [Still D] in
theorem sZ{ops:Array Oper}{i:Nat}{rest:List Nat}{o:Oper}{v:Value}(ho:ops[i]? =some o)(hw:Region.wanted o (yielded ops a.tmps)=true)(hk:b.kind≠ .early)
  (hr:∀w,I w->(execOp a.eval o).run P w=.ok (.value v) w) (he:∀w,I w->D w w (seen P b.fn ((execOp a.eval o).events P w #[])))
  (hq:dw P main I D S n (G (b.at (a.put o.dst v) (.inRegion ops rest::k)) cs)):dw P main I D S (n+1) (G (b.at a (.inRegion ops (i::rest)::k)) cs):=
 λw hw'=>Goes.step rfl λw₁ h₁=>by
  rw[stepG_value ho hw hk (hr w₁ (h₁ hw')),goes_go]
  exact⟨he w₁ (h₁ hw'),hq w₁ (h₁ hw')⟩
omit [Still D] in
theorem Zo{id:Nat}{ops:Array Oper}(hD:∀w:World,D w {w with drawn:=w.drawn+1} #[])(hI:∀w:World,I w->I {w with drawn:=w.drawn+1})
  (h:∀t,dw P main I D S n (G (b.at a (.inRegion ops (Region.schedule (P.follows .mixedOrders) ops t)::k)) cs)):dw P main I D S (n+1) (G (b.at a (.code (.region id ops true)::k)) cs):=
 λw hw'=>Goes.step rfl λw₁ h₁=>by
  rw[stepG_region_draw]
  exact⟨hD _,h _ _ (hI _ (h₁ hw'))⟩
omit [Still D] in
end
end
end Go.Proofs.YtlncengggmgdgaaGreat.par
namespace Go.Proofs.YtlncengggmgdgaaGreat.par
open Go Go.Conc Go.RowKit Go.Conc.Lib Go.ConcR.Gen Go.ConcN.Gen
open Go.ConcR (stA smA WgAt KK rd wr mk DC0)
open Go.ConcN (st_flag st_waiters)
section
variable {L : WgLink} {P : Program} {I : World → Prop} {Wg : Nat}
theorem Cc{w:World}(h:∃st sm,WgAt L.tWg Wg w st sm):∃v,w.cell? ⟨Wg,0,none⟩=some v:=let⟨_,_,x⟩:=h;⟨_,x.cellSt⟩
theorem JD{w:World}(h:∃st sm,WgAt L.tWg Wg w st sm):∃v,w.cell? ⟨Wg,1,none⟩=some v:=let⟨_,_,x⟩:=h;⟨_,x.cellSm⟩
def N1(P:Program)(I:World->Prop)(N2:Goroutine->World->Prop)(g:Goroutine)(w:World):Prop:=
 g.status=.running/\∃g',stepG P false g w=.go g' w #[mk .disable]/\∃m,wR P false I N2 m g'
def N0(P:Program)(I:World->Prop)(Wg:Nat)(N2:Goroutine->World->Prop)(g:Goroutine)(w:World):Prop:=
 g.status=.running/\∃g',stepG P false g w=.go g' w #[mk (.releaseMerge (stA Wg))]/\∃m,wR P false I (N1 P I N2) m g'
def N2(P:Program)(I:World->Prop)(tW:TypeId)(Wg:Nat)(N3:Goroutine->World->Prop)(g:Goroutine)(w:World):Prop:=
 g.status=.running/\∀v wt:Nat,wt<=1->v<2147483647->WgAt tW Wg w ((v+1)*KK+wt) 0->
  ∃g',stepG P false g w=.go g' (w.setCell (stA Wg) (.int .u64 (v*KK+wt))) #[rd (stA Wg),wr (stA Wg)]/\
   ((v=0/\wt=1)->∃m,wR P false I N3 m g')/\(¬(v=0/\wt=1)->∃q,QuitsD P q 1 g')
def N5(P:Program)(tW:TypeId)(Wg:Nat)(g:Goroutine)(w:World):Prop:=
 g.status=.running/\mayWake P g=true/\(WgAt tW Wg w 0 0->∃g',stepG P false g w=.go g' (w.setCell (smA Wg) (.int .u32 1)) (semEvents (smA Wg))/\∃q,QuitsD P q 1 g')
def N4(P:Program)(I:World->Prop)(tW:TypeId)(Wg:Nat)(g:Goroutine)(w:World):Prop:=
 g.status=.running/\(WgAt tW Wg w 1 0->∃g',stepG P false g w=.go g' (w.setCell (stA Wg) (.int .u64 0)) #[wr (stA Wg)]/\∃m,wR P false I (N5 P tW Wg) m g')
def N3(P:Program)(I:World->Prop)(tW:TypeId)(Wg:Nat)(g:Goroutine)(w:World):Prop:=
 g.status=.running/\(WgAt tW Wg w 1 0->∃g',stepG P false g w=.go g' w #[rd (stA Wg)]/\∃m,wR P false I (N4 P I tW Wg) m g')
set_option maxHeartbeats 4000000 in
theorem Zp(H:WgLib P L)(hI:∀{w:World},I w->∃st sm,WgAt L.tWg Wg w st sm){b₀:Frame}{a₀:Act}{ops₀:Array Oper}{i₀:Nat}{rest₀:List Nat}{k₀:List Item}{cs:List Frame}{qt:Nat}(hT:QuitsD P qt 0 (G (b₀.at (a₀.put ((ops₀[i₀]?).bind (·.dst)) (.tuple #[])) (.inRegion ops₀ rest₀::k₀)) cs)):
  wR P false I (N0 P I Wg (N2 P I L.tWg Wg (N3 P I L.tWg Wg))) 20 (G ((base L.add).at ⟨#[.pointer (some ⟨Wg,0,none⟩),.int .i64 (-1),undef,undef,undef,undef,undef,undef,undef,undef,undef,undef,undef,undef,undef,undef,undef,undef,undef,undef,undef,undef,undef,undef,undef,undef,undef,undef,undef,undef,undef,undef,undef,undef,undef,undef,undef,undef,undef,undef,undef,undef,undef,undef,undef,undef,undef,undef,undef,undef,undef,undef,undef,undef,undef,undef,undef,undef,undef,undef,undef,undef,undef,undef,undef,undef,undef,undef,undef,undef,undef,undef,undef,undef,undef,undef,undef,undef,undef,undef,undef,undef,undef,undef,undef,undef,undef,undef,undef,undef,undef,undef,undef,undef,undef,undef,undef,undef,undef,undef,undef,undef,undef,undef,undef,undef,undef,undef,undef,undef,undef,undef,undef,undef,undef,undef,undef],[]⟩ [.code (body_add L)]) (b₀.at a₀ (.inRegion ops₀ (i₀::rest₀)::k₀)::cs)):=by
 lib_facts
 simp only[body_add,addFn,Option.getD_some]
 repeat(first|(with_reducible apply bn)|(with_reducible apply aI)|((with_reducible apply gi_region);simp only[List.size_toArray,List.length_cons,List.length_nil,Nat.reduceAdd,Nat.zero_add,List.range,List.range.loop])|(with_reducible apply aK)|(with_reducible apply bY)|(with_reducible apply aT)|(with_reducible apply gi_loop)|(with_reducible apply bD)|(with_reducible apply dM)|(with_reducible apply bG)|((with_reducible apply aY (t:=false));(focus first|rfl|(simp[Act.eval];done)|(simp[Act.eval];omega));simp only[if_true,if_false,Bool.false_eq_true,↓reduceIte])|((with_reducible apply aY (t:=true));(focus first|rfl|(simp[Act.eval];done)|(simp[Act.eval];omega));simp only[if_true,if_false,Bool.false_eq_true,↓reduceIte])|((with_reducible refine aH (v:= ?_) (o:= ?_) ?_ ?_ ?_ (λ_ _=> ?_) (λ_ _=> ?_) ?_);rotate_left 2;(focus exact rfl);(focus exact rfl);(focus k_ne);(focus (go_simp;(try w_num);first|done|exact rfl));(focus (simp[go_sem, *];done));walk_nrm)|((with_reducible refine bC (o:= ?_) ?_ ?_ ?_);rotate_left;(focus exact rfl);(focus exact rfl);walk_nrm)|((with_reducible apply dH);(focus rfl))|(refine qg H.underlying_tWgP H.underlying_tUP H.room_tWg (λw hw=>(Cc (hI hw))) rfl rfl (by k_ne) rfl rfl ?_;walk_nrm))
 refine dw.halt λw₁ h₁=> ?_
 clear h₁
 refine⟨rfl,_,stepG_markAt .releaseMerge (by simp) rfl rfl (by k_ne) rfl H.f_relMerge (x_relMerge_n L) (x_relMerge_b L) (x_relMerge_x L) (x_relMerge_f L) (by simp[Act.eval,stA]),10,?_⟩
 clear w₁
 walk_nrm
 repeat(first|(with_reducible apply bn)|(with_reducible apply aI)|((with_reducible apply gi_region);simp only[List.size_toArray,List.length_cons,List.length_nil,Nat.reduceAdd,Nat.zero_add,List.range,List.range.loop])|(with_reducible apply aK)|(with_reducible apply bY)|(with_reducible apply aT)|(with_reducible apply gi_loop)|(with_reducible apply bD)|(with_reducible apply dM)|(with_reducible apply bG)|((with_reducible apply aY (t:=false));(focus first|rfl|(simp[Act.eval];done)|(simp[Act.eval];omega));simp only[if_true,if_false,Bool.false_eq_true,↓reduceIte])|((with_reducible apply aY (t:=true));(focus first|rfl|(simp[Act.eval];done)|(simp[Act.eval];omega));simp only[if_true,if_false,Bool.false_eq_true,↓reduceIte])|((with_reducible refine aH (v:= ?_) (o:= ?_) ?_ ?_ ?_ (λ_ _=> ?_) (λ_ _=> ?_) ?_);rotate_left 2;(focus exact rfl);(focus exact rfl);(focus k_ne);(focus (go_simp;(try w_num);first|done|exact rfl));(focus (simp[go_sem, *];done));walk_nrm)|((with_reducible refine bC (o:= ?_) ?_ ?_ ?_);rotate_left;(focus exact rfl);(focus exact rfl);walk_nrm)|((with_reducible apply dH);(focus rfl)))
 refine dw.halt λw₁ h₁=> ?_
 clear h₁
 refine⟨rfl,_,stepG_mark0 .disable (by simp) rfl rfl (by k_ne) rfl H.f_disable (x_disable_n L) (x_disable_b L) (x_disable_x L) (x_disable_f L),50,?_⟩
 clear w₁
 walk_nrm
 repeat(first|(with_reducible apply bn)|(with_reducible apply aI)|((with_reducible apply gi_region);simp only[List.size_toArray,List.length_cons,List.length_nil,Nat.reduceAdd,Nat.zero_add,List.range,List.range.loop])|(with_reducible apply aK)|(with_reducible apply bY)|(with_reducible apply aT)|(with_reducible apply gi_loop)|(with_reducible apply bD)|(with_reducible apply dM)|(with_reducible apply bG)|((with_reducible apply aY (t:=false));(focus first|rfl|(simp[Act.eval];done)|(simp[Act.eval];omega));simp only[if_true,if_false,Bool.false_eq_true,↓reduceIte])|((with_reducible apply aY (t:=true));(focus first|rfl|(simp[Act.eval];done)|(simp[Act.eval];omega));simp only[if_true,if_false,Bool.false_eq_true,↓reduceIte])|((with_reducible refine aH (v:= ?_) (o:= ?_) ?_ ?_ ?_ (λ_ _=> ?_) (λ_ _=> ?_) ?_);rotate_left 2;(focus exact rfl);(focus exact rfl);(focus k_ne);(focus (go_simp;(try w_num);first|done|exact rfl));(focus (simp[go_sem, *];done));walk_nrm)|((with_reducible refine bC (o:= ?_) ?_ ?_ ?_);rotate_left;(focus exact rfl);(focus exact rfl);walk_nrm)|((with_reducible apply dH);(focus rfl))|(refine PN (.bool false) rfl rfl (by k_ne) rfl H.f_inBubble (x_inBubble_n L) (x_inBubble_b L) (x_inBubble_x L) (x_inBubble_f L) ?_;walk_nrm)|(refine Cb rfl rfl (by k_ne) rfl ?_;walk_nrm)|(refine jw rfl rfl (by k_ne) rfl H.f_uAdd (nm_uAdd L) rfl ?_;walk_nrmf uAddFn))
 refine dw.halt λw₁ h₁=> ?_
 clear h₁ hI
 refine⟨rfl,λv wt hwt hv hw=> ?_⟩
 have e0:IntKind.u64.wrap (KK+18446744069414584320)=0:=by decide
 have e1:IntKind.u64.wrap (KK+1+18446744069414584320)=1:=by decide
 rcases Nat.eq_zero_or_pos v with rfl|hvp
 ·obtain rfl|rfl:wt=0\/wt=1:=by omega
  ·replace hw:WgAt L.tWg Wg w₁ KK 0:=by simpa using hw
   have z:((0:Nat):Int)*KK+((0:Nat):Int)=0:=by simp
   rw[z]
   refine⟨_,(stepG_add_atomic rfl rfl (by k_ne) rfl H.f_addU64 (x_addU64_n L) (x_addU64_b L) (x_addU64_x L) .u64 (x_addU64_f L) rfl rfl hw.cellSt (hw.thaw 0)).trans (by rw[e0];rfl),λhl=>absurd hl.2 (by decide),λ_=>⟨qt+89,?_⟩⟩
   clear hw z e0 e1
   walk_nrm
   repeat(first|(with_reducible apply PK)|(with_reducible apply rG)|((with_reducible apply wP);simp only[List.size_toArray,List.length_cons,List.length_nil,Nat.reduceAdd,Nat.zero_add,List.range,List.range.loop])|(with_reducible apply pX)|(with_reducible apply Gs)|(with_reducible apply sW)|(with_reducible apply Nv)|(with_reducible apply wO)|(with_reducible apply PL)|(with_reducible apply wQ)|((with_reducible apply zo (t:=false));(focus first|rfl|(simp[Act.eval];done)|(simp[Act.eval];omega));simp only[if_true,if_false,Bool.false_eq_true,↓reduceIte])|((with_reducible apply zo (t:=true));(focus first|rfl|(simp[Act.eval];done)|(simp[Act.eval];omega));simp only[if_true,if_false,Bool.false_eq_true,↓reduceIte])|((with_reducible refine Aq (v:= ?_) (o:= ?_) ?_ ?_ ?_ (λ_=> ?_) (λ_=> ?_) ?_);rotate_left 2;(focus exact rfl);(focus exact rfl);(focus k_ne);(focus (go_simp;(try w_num);first|done|exact rfl));(focus (simp[go_sem, *];done));walk_nrm)|((with_reducible refine pY (o:= ?_) ?_ ?_ ?_);rotate_left;(focus exact rfl);(focus exact rfl);walk_nrm)|((with_reducible apply Ap);(focus rfl))|q_leave1 H.f_uAdd|q_enable)
   q_leave0 H.f_add
   exact hT
  ·replace hw:WgAt L.tWg Wg w₁ (KK+1) 0:=by simpa using hw
   have z:((0:Nat):Int)*KK+((1:Nat):Int)=1:=by simp
   rw[z]
   refine⟨_,(stepG_add_atomic rfl rfl (by k_ne) rfl H.f_addU64 (x_addU64_n L) (x_addU64_b L) (x_addU64_x L) .u64 (x_addU64_f L) rfl rfl hw.cellSt (hw.thaw 0)).trans (by rw[e1];rfl),λ_=>⟨120,?_⟩,λhl=>absurd ⟨rfl,rfl⟩ hl⟩
   clear hw z e0 e1
   walk_nrm
   repeat(first|(with_reducible apply bn)|(with_reducible apply aI)|((with_reducible apply gi_region);simp only[List.size_toArray,List.length_cons,List.length_nil,Nat.reduceAdd,Nat.zero_add,List.range,List.range.loop])|(with_reducible apply aK)|(with_reducible apply bY)|(with_reducible apply aT)|(with_reducible apply gi_loop)|(with_reducible apply bD)|(with_reducible apply dM)|(with_reducible apply bG)|((with_reducible apply aY (t:=false));(focus first|rfl|(simp[Act.eval];done)|(simp[Act.eval];omega));simp only[if_true,if_false,Bool.false_eq_true,↓reduceIte])|((with_reducible apply aY (t:=true));(focus first|rfl|(simp[Act.eval];done)|(simp[Act.eval];omega));simp only[if_true,if_false,Bool.false_eq_true,↓reduceIte])|((with_reducible refine aH (v:= ?_) (o:= ?_) ?_ ?_ ?_ (λ_ _=> ?_) (λ_ _=> ?_) ?_);rotate_left 2;(focus exact rfl);(focus exact rfl);(focus k_ne);(focus (go_simp;(try w_num);first|done|exact rfl));(focus (simp[go_sem, *];done));walk_nrm)|((with_reducible refine bC (o:= ?_) ?_ ?_ ?_);rotate_left;(focus exact rfl);(focus exact rfl);walk_nrm)|((with_reducible apply dH);(focus rfl))|(refine gK rfl rfl H.f_uAdd rfl ?_;walk_nrm)|(refine jw rfl rfl (by k_ne) rfl H.f_uLoad (nm_uLoad L) rfl ?_;walk_nrmf uLoadFn))
   refine dw.halt λw₂ h₂=> ?_
   clear h₂
   refine⟨rfl,λhw=>⟨_,stepG_load_atomic rfl rfl (by k_ne) rfl H.f_loadU64 (x_loadU64_n L) (x_loadU64_b L) (x_loadU64_x L) .u64 (x_loadU64_f L) rfl hw.cellSt,40,?_⟩⟩
   clear hw
   walk_nrm
   repeat(first|(with_reducible apply bn)|(with_reducible apply aI)|((with_reducible apply gi_region);simp only[List.size_toArray,List.length_cons,List.length_nil,Nat.reduceAdd,Nat.zero_add,List.range,List.range.loop])|(with_reducible apply aK)|(with_reducible apply bY)|(with_reducible apply aT)|(with_reducible apply gi_loop)|(with_reducible apply bD)|(with_reducible apply dM)|(with_reducible apply bG)|((with_reducible apply aY (t:=false));(focus first|rfl|(simp[Act.eval];done)|(simp[Act.eval];omega));simp only[if_true,if_false,Bool.false_eq_true,↓reduceIte])|((with_reducible apply aY (t:=true));(focus first|rfl|(simp[Act.eval];done)|(simp[Act.eval];omega));simp only[if_true,if_false,Bool.false_eq_true,↓reduceIte])|((with_reducible refine aH (v:= ?_) (o:= ?_) ?_ ?_ ?_ (λ_ _=> ?_) (λ_ _=> ?_) ?_);rotate_left 2;(focus exact rfl);(focus exact rfl);(focus k_ne);(focus (go_simp;(try w_num);first|done|exact rfl));(focus (simp[go_sem, *];done));walk_nrm)|((with_reducible refine bC (o:= ?_) ?_ ?_ ?_);rotate_left;(focus exact rfl);(focus exact rfl);walk_nrm)|((with_reducible apply dH);(focus rfl))|(refine gK rfl rfl H.f_uLoad rfl ?_;walk_nrm)|(refine jw rfl rfl (by k_ne) rfl H.f_uStore (nm_uStore L) rfl ?_;walk_nrmf uStoreFn))
   refine dw.halt λw₂ h₂=> ?_
   clear h₂
   refine⟨rfl,λhw=>⟨_,stepG_store_atomic rfl rfl (by k_ne) rfl H.f_storeU64 (x_storeU64_n L) (x_storeU64_b L) (x_storeU64_x L) (x_storeU64_f L) rfl rfl hw.cellSt (hw.thaw 0),60,?_⟩⟩
   clear hw
   walk_nrm
   repeat(first|(with_reducible apply bn)|(with_reducible apply aI)|((with_reducible apply gi_region);simp only[List.size_toArray,List.length_cons,List.length_nil,Nat.reduceAdd,Nat.zero_add,List.range,List.range.loop])|(with_reducible apply aK)|(with_reducible apply bY)|(with_reducible apply aT)|(with_reducible apply gi_loop)|(with_reducible apply bD)|(with_reducible apply dM)|(with_reducible apply bG)|((with_reducible apply aY (t:=false));(focus first|rfl|(simp[Act.eval];done)|(simp[Act.eval];omega));simp only[if_true,if_false,Bool.false_eq_true,↓reduceIte])|((with_reducible apply aY (t:=true));(focus first|rfl|(simp[Act.eval];done)|(simp[Act.eval];omega));simp only[if_true,if_false,Bool.false_eq_true,↓reduceIte])|((with_reducible refine aH (v:= ?_) (o:= ?_) ?_ ?_ ?_ (λ_ _=> ?_) (λ_ _=> ?_) ?_);rotate_left 2;(focus exact rfl);(focus exact rfl);(focus k_ne);(focus (go_simp;(try w_num);first|done|exact rfl));(focus (simp[go_sem, *];done));walk_nrm)|((with_reducible refine bC (o:= ?_) ?_ ?_ ?_);rotate_left;(focus exact rfl);(focus exact rfl);walk_nrm)|((with_reducible apply dH);(focus rfl))|(refine oL rfl rfl H.f_uStore rfl ?_;walk_nrm))
   refine dw.halt λw₂ h₂=> ?_
   clear h₂
   refine⟨rfl,mayWake_entry rfl rfl H.f_semrelease (x_semrelease_b L),λhw=>⟨_,(stepG_semrelease rfl rfl (by k_ne) rfl H.f_semrelease (x_semrelease_n L) (x_semrelease_b L) (x_semrelease_x L) (x_semrelease_f L) (by simp[Act.eval,smA]) hw.cellSm (hw.thaw 1)).trans (by rfl),qt+19,?_⟩⟩
   clear hw
   walk_nrm
   repeat(first|(with_reducible apply PK)|(with_reducible apply rG)|((with_reducible apply wP);simp only[List.size_toArray,List.length_cons,List.length_nil,Nat.reduceAdd,Nat.zero_add,List.range,List.range.loop])|(with_reducible apply pX)|(with_reducible apply Gs)|(with_reducible apply sW)|(with_reducible apply Nv)|(with_reducible apply wO)|(with_reducible apply PL)|(with_reducible apply wQ)|((with_reducible apply zo (t:=false));(focus first|rfl|(simp[Act.eval];done)|(simp[Act.eval];omega));simp only[if_true,if_false,Bool.false_eq_true,↓reduceIte])|((with_reducible apply zo (t:=true));(focus first|rfl|(simp[Act.eval];done)|(simp[Act.eval];omega));simp only[if_true,if_false,Bool.false_eq_true,↓reduceIte])|((with_reducible refine Aq (v:= ?_) (o:= ?_) ?_ ?_ ?_ (λ_=> ?_) (λ_=> ?_) ?_);rotate_left 2;(focus exact rfl);(focus exact rfl);(focus k_ne);(focus (go_simp;(try w_num);first|done|exact rfl));(focus (simp[go_sem, *];done));walk_nrm)|((with_reducible refine pY (o:= ?_) ?_ ?_ ?_);rotate_left;(focus exact rfl);(focus exact rfl);walk_nrm)|((with_reducible apply Ap);(focus rfl))|q_leave1 H.f_uAdd|q_enable)
   q_leave0 H.f_add
   exact hT
 ·have c1:IntKind.i32.wrap (v:Int)=(v:Int):=by rw[IntKind.wrap_i32];omega
  have q3:decide ((v:Int)<0)=false:=decide_eq_false (by omega)
  have q4:decide (0<(v:Int))=true:=decide_eq_true (by omega)
  have q5:((v:Int)==0)=false:=by simp;omega
  have q6:decide ((v:Int)=0)=false:=decide_eq_false (by omega)
  obtain rfl|rfl:wt=0\/wt=1:=by omega
  ·obtain⟨S,hS⟩:∃S:Int,(v:Int)*KK+((0:Nat):Int)=S:=⟨_,rfl⟩
   have a1:S/4294967296=(v:Int):=by rw[<-hS];simp only[KK];omega
   have b1:bits .and .u64 S 2147483648=0:=by rw[<-hS];have:=st_flag v 0 (by omega) (by omega);simpa [KK]using this
   have b2:bits .and .u64 S 2147483647=0:=by rw[<-hS];have:=st_waiters v 0 (by omega) (by omega);simpa [KK]using this
   have eS:IntKind.u64.wrap (((v:Int)+1)*KK+((0:Nat):Int)+18446744069414584320)=S:=by rw[IntKind.wrap_u64,<-hS];simp only[KK];omega
   rw[hS]
   refine⟨_,(stepG_add_atomic rfl rfl (by k_ne) rfl H.f_addU64 (x_addU64_n L) (x_addU64_b L) (x_addU64_x L) .u64 (x_addU64_f L) rfl rfl hw.cellSt (hw.thaw 0)).trans (by rw[eS];rfl),λhl=>absurd hl.1 (by omega),λ_=>⟨qt+95,?_⟩⟩
   clear hw e0 e1 eS hS
   walk_nrm
   repeat(first|(with_reducible apply PK)|(with_reducible apply rG)|((with_reducible apply wP);simp only[List.size_toArray,List.length_cons,List.length_nil,Nat.reduceAdd,Nat.zero_add,List.range,List.range.loop])|(with_reducible apply pX)|(with_reducible apply Gs)|(with_reducible apply sW)|(with_reducible apply Nv)|(with_reducible apply wO)|(with_reducible apply PL)|(with_reducible apply wQ)|((with_reducible apply zo (t:=false));(focus first|rfl|(simp[Act.eval];done)|(simp[Act.eval];omega));simp only[if_true,if_false,Bool.false_eq_true,↓reduceIte])|((with_reducible apply zo (t:=true));(focus first|rfl|(simp[Act.eval];done)|(simp[Act.eval];omega));simp only[if_true,if_false,Bool.false_eq_true,↓reduceIte])|((with_reducible refine Aq (v:= ?_) (o:= ?_) ?_ ?_ ?_ (λ_=> ?_) (λ_=> ?_) ?_);rotate_left 2;(focus exact rfl);(focus exact rfl);(focus k_ne);(focus (go_simp;(try simp only[a1,b1,b2,c1,q3,q4,q5,q6]);(try w_num);first|done|exact rfl));(focus (simp[go_sem, *];done));walk_nrm)|((with_reducible refine pY (o:= ?_) ?_ ?_ ?_);rotate_left;(focus exact rfl);(focus exact rfl);walk_nrm)|((with_reducible apply Ap);(focus rfl))|q_leave1 H.f_uAdd|q_enable)
   q_leave0 H.f_add
   exact ae7 hT (by omega)
  ·obtain⟨S,hS⟩:∃S:Int,(v:Int)*KK+((1:Nat):Int)=S:=⟨_,rfl⟩
   have a1:S/4294967296=(v:Int):=by rw[<-hS];simp only[KK];omega
   have b1:bits .and .u64 S 2147483648=0:=by rw[<-hS];have:=st_flag v 1 (by omega) (by omega);simpa [KK]using this
   have b2:bits .and .u64 S 2147483647=1:=by rw[<-hS];have:=st_waiters v 1 (by omega) (by omega);simpa [KK]using this
   have eS:IntKind.u64.wrap (((v:Int)+1)*KK+((1:Nat):Int)+18446744069414584320)=S:=by rw[IntKind.wrap_u64,<-hS];simp only[KK];omega
   rw[hS]
   refine⟨_,(stepG_add_atomic rfl rfl (by k_ne) rfl H.f_addU64 (x_addU64_n L) (x_addU64_b L) (x_addU64_x L) .u64 (x_addU64_f L) rfl rfl hw.cellSt (hw.thaw 0)).trans (by rw[eS];rfl),λhl=>absurd hl.1 (by omega),λ_=>⟨qt+95,?_⟩⟩
   clear hw e0 e1 eS hS
   walk_nrm
   repeat(first|(with_reducible apply PK)|(with_reducible apply rG)|((with_reducible apply wP);simp only[List.size_toArray,List.length_cons,List.length_nil,Nat.reduceAdd,Nat.zero_add,List.range,List.range.loop])|(with_reducible apply pX)|(with_reducible apply Gs)|(with_reducible apply sW)|(with_reducible apply Nv)|(with_reducible apply wO)|(with_reducible apply PL)|(with_reducible apply wQ)|((with_reducible apply zo (t:=false));(focus first|rfl|(simp[Act.eval];done)|(simp[Act.eval];omega));simp only[if_true,if_false,Bool.false_eq_true,↓reduceIte])|((with_reducible apply zo (t:=true));(focus first|rfl|(simp[Act.eval];done)|(simp[Act.eval];omega));simp only[if_true,if_false,Bool.false_eq_true,↓reduceIte])|((with_reducible refine Aq (v:= ?_) (o:= ?_) ?_ ?_ ?_ (λ_=> ?_) (λ_=> ?_) ?_);rotate_left 2;(focus exact rfl);(focus exact rfl);(focus k_ne);(focus (go_simp;(try simp only[a1,b1,b2,c1,q3,q4,q5,q6]);(try w_num);first|done|exact rfl));(focus (simp[go_sem, *];done));walk_nrm)|((with_reducible refine pY (o:= ?_) ?_ ?_ ?_);rotate_left;(focus exact rfl);(focus exact rfl);walk_nrm)|((with_reducible apply Ap);(focus rfl))|q_leave1 H.f_uAdd|q_enable)
   q_leave0 H.f_add
   exact ae7 hT (by omega)
end
end Go.Proofs.YtlncengggmgdgaaGreat.par
namespace Go.Proofs.YtlncengggmgdgaaGreat.par
open Go Go.Conc Go.RowKit Go.Conc.Lib Go.ConcR.Gen Go.ConcN.Gen
open Go.ConcR (stA smA WgAt KK rd wr mk DC0)
open Go.ConcN (st_flag st_waiters)
section
variable {L : WgLink} {P : Program} {I : World → Prop} {Wg : Nat}
def Q3(P:Program)(I:World->Prop)(e:Event)(S:Goroutine->World->Prop)(g:Goroutine)(w:World):Prop:=
 g.status=.running/\∃g',stepG P true g w=.go g' w #[e]/\∃m,wR P true I S m g'
def Q1(P:Program)(I:World->Prop)(tW:TypeId)(Wg:Nat)(S:Goroutine->World->Prop)(g:Goroutine)(w:World):Prop:=
 g.status=.running/\∀v:Nat,v<2147483647->WgAt tW Wg w (v*KK) 0->
  ∃g',stepG P true g w=.go g' (w.setCell (stA Wg) (.int .u64 ((v+1)*KK))) #[rd (stA Wg),wr (stA Wg)]/\
   ∃m,wR P true I (λg w=>Q3 P I (mk .enable) S g w\/Q3 P I (mk (.read (smA Wg))) (Q3 P I (mk .enable) S) g w) m g'
set_option maxHeartbeats 4000000 in
theorem add_one(H:WgLib P L)(hI:∀{w:World},I w->∃st sm,WgAt L.tWg Wg w st sm){b₀:Frame}{a₀:Act}{ops₀:Array Oper}{i₀:Nat}{rest₀:List Nat}{k₀:List Item}{cs:List Frame}:
  wR P true I (Q3 P I (mk .disable) (Q1 P I L.tWg Wg (λg _=>g=G (b₀.at (a₀.put ((ops₀[i₀]?).bind (·.dst)) (.tuple #[])) (.inRegion ops₀ rest₀::k₀)) cs))) 20 (G ((base L.add).at ⟨#[.pointer (some ⟨Wg,0,none⟩),.int .i64 1,undef,undef,undef,undef,undef,undef,undef,undef,undef,undef,undef,undef,undef,undef,undef,undef,undef,undef,undef,undef,undef,undef,undef,undef,undef,undef,undef,undef,undef,undef,undef,undef,undef,undef,undef,undef,undef,undef,undef,undef,undef,undef,undef,undef,undef,undef,undef,undef,undef,undef,undef,undef,undef,undef,undef,undef,undef,undef,undef,undef,undef,undef,undef,undef,undef,undef,undef,undef,undef,undef,undef,undef,undef,undef,undef,undef,undef,undef,undef,undef,undef,undef,undef,undef,undef,undef,undef,undef,undef,undef,undef,undef,undef,undef,undef,undef,undef,undef,undef,undef,undef,undef,undef,undef,undef,undef,undef,undef,undef,undef,undef,undef,undef,undef,undef],[]⟩ [.code (body_add L)]) (b₀.at a₀ (.inRegion ops₀ (i₀::rest₀)::k₀)::cs)):=by
 lib_facts
 simp only[body_add,addFn,Option.getD_some]
 repeat(first|(with_reducible apply bn)|(with_reducible apply aI)|((with_reducible apply gi_region);simp only[List.size_toArray,List.length_cons,List.length_nil,Nat.reduceAdd,Nat.zero_add,List.range,List.range.loop])|(with_reducible apply aK)|(with_reducible apply bY)|(with_reducible apply aT)|(with_reducible apply gi_loop)|(with_reducible apply bD)|(with_reducible apply dM)|(with_reducible apply bG)|((with_reducible apply aY (t:=false));(focus first|rfl|(simp[Act.eval];done)|(simp[Act.eval];omega));simp only[if_true,if_false,Bool.false_eq_true,↓reduceIte])|((with_reducible apply aY (t:=true));(focus first|rfl|(simp[Act.eval];done)|(simp[Act.eval];omega));simp only[if_true,if_false,Bool.false_eq_true,↓reduceIte])|((with_reducible refine aH (v:= ?_) (o:= ?_) ?_ ?_ ?_ (λ_ _=> ?_) (λ_ _=> ?_) ?_);rotate_left 2;(focus exact rfl);(focus exact rfl);(focus k_ne);(focus (go_simp;(try w_num);first|done|exact rfl));(focus (simp[go_sem, *];done));walk_nrm)|((with_reducible refine bC (o:= ?_) ?_ ?_ ?_);rotate_left;(focus exact rfl);(focus exact rfl);walk_nrm)|((with_reducible apply dH);(focus rfl)))
 refine dw.halt λw₁ h₁=> ?_
 clear h₁
 refine⟨rfl,_,stepG_mark0 .disable (by simp) rfl rfl (by k_ne) rfl H.f_disable (x_disable_n L) (x_disable_b L) (x_disable_x L) (x_disable_f L),50,?_⟩
 clear w₁
 walk_nrm
 repeat(first|(with_reducible apply bn)|(with_reducible apply aI)|((with_reducible apply gi_region);simp only[List.size_toArray,List.length_cons,List.length_nil,Nat.reduceAdd,Nat.zero_add,List.range,List.range.loop])|(with_reducible apply aK)|(with_reducible apply bY)|(with_reducible apply aT)|(with_reducible apply gi_loop)|(with_reducible apply bD)|(with_reducible apply dM)|(with_reducible apply bG)|((with_reducible apply aY (t:=false));(focus first|rfl|(simp[Act.eval];done)|(simp[Act.eval];omega));simp only[if_true,if_false,Bool.false_eq_true,↓reduceIte])|((with_reducible apply aY (t:=true));(focus first|rfl|(simp[Act.eval];done)|(simp[Act.eval];omega));simp only[if_true,if_false,Bool.false_eq_true,↓reduceIte])|((with_reducible refine aH (v:= ?_) (o:= ?_) ?_ ?_ ?_ (λ_ _=> ?_) (λ_ _=> ?_) ?_);rotate_left 2;(focus exact rfl);(focus exact rfl);(focus k_ne);(focus (go_simp;(try w_num);first|done|exact rfl));(focus (simp[go_sem, *];done));walk_nrm)|((with_reducible refine bC (o:= ?_) ?_ ?_ ?_);rotate_left;(focus exact rfl);(focus exact rfl);walk_nrm)|((with_reducible apply dH);(focus rfl))|(refine PN (.bool false) rfl rfl (by k_ne) rfl H.f_inBubble (x_inBubble_n L) (x_inBubble_b L) (x_inBubble_x L) (x_inBubble_f L) ?_;walk_nrm)|(refine Cb rfl rfl (by k_ne) rfl ?_;walk_nrm)|(refine jw rfl rfl (by k_ne) rfl H.f_uAdd (nm_uAdd L) rfl ?_;walk_nrmf uAddFn))
 refine dw.halt λw₁ h₁=> ?_
 clear h₁
 refine⟨rfl,λv hv hw=> ?_⟩
 rcases Nat.eq_zero_or_pos v with rfl|hvp
 ·replace hw:WgAt L.tWg Wg w₁ 0 0:=by simpa using hw
  have z:(((0:Nat):Int)+1)*KK=KK:=by simp
  rw[z]
  have e0:IntKind.u64.wrap (0+4294967296)=KK:=by decide
  refine⟨_,(stepG_add_atomic rfl rfl (by k_ne) rfl H.f_addU64 (x_addU64_n L) (x_addU64_b L) (x_addU64_x L) .u64 (x_addU64_f L) rfl rfl hw.cellSt (hw.thaw 0)).trans (by rw[e0];rfl),120,?_⟩
  clear hw z e0
  simp only[KK]
  walk_nrm
  repeat(first|(with_reducible apply bn)|(with_reducible apply aI)|((with_reducible apply gi_region);simp only[List.size_toArray,List.length_cons,List.length_nil,Nat.reduceAdd,Nat.zero_add,List.range,List.range.loop])|(with_reducible apply aK)|(with_reducible apply bY)|(with_reducible apply aT)|(with_reducible apply gi_loop)|(with_reducible apply bD)|(with_reducible apply dM)|(with_reducible apply bG)|((with_reducible apply aY (t:=false));(focus first|rfl|(simp[Act.eval];done)|(simp[Act.eval];omega));simp only[if_true,if_false,Bool.false_eq_true,↓reduceIte])|((with_reducible apply aY (t:=true));(focus first|rfl|(simp[Act.eval];done)|(simp[Act.eval];omega));simp only[if_true,if_false,Bool.false_eq_true,↓reduceIte])|((with_reducible refine aH (v:= ?_) (o:= ?_) ?_ ?_ ?_ (λ_ _=> ?_) (λ_ _=> ?_) ?_);rotate_left 2;(focus exact rfl);(focus exact rfl);(focus k_ne);(focus (go_simp;(try w_num);first|done|exact rfl));(focus (simp[go_sem, *];done));walk_nrm)|((with_reducible refine bC (o:= ?_) ?_ ?_ ?_);rotate_left;(focus exact rfl);(focus exact rfl);walk_nrm)|((with_reducible apply dH);(focus rfl))|(refine gK rfl rfl H.f_uAdd rfl ?_;walk_nrm)|(refine qg H.underlying_tPU32 H.underlying_tUP H.room_tU32 (λw hw=>(JD (hI hw))) rfl rfl (by k_ne) rfl rfl ?_;walk_nrm))
  refine dw.halt λw₁ h₁=>.inr ?_
  clear h₁
  refine⟨rfl,_,stepG_markAt .read (by simp) rfl rfl (by k_ne) rfl H.f_raceRead (x_raceRead_n L) (x_raceRead_b L) (x_raceRead_x L) (x_raceRead_f L) (ad:=⟨Wg,1,none⟩) (by simp[Act.eval]),80,?_⟩
  clear w₁
  walk_nrm
  repeat(first|(with_reducible apply bn)|(with_reducible apply aI)|((with_reducible apply gi_region);simp only[List.size_toArray,List.length_cons,List.length_nil,Nat.reduceAdd,Nat.zero_add,List.range,List.range.loop])|(with_reducible apply aK)|(with_reducible apply bY)|(with_reducible apply aT)|(with_reducible apply gi_loop)|(with_reducible apply bD)|(with_reducible apply dM)|(with_reducible apply bG)|((with_reducible apply aY (t:=false));(focus first|rfl|(simp[Act.eval];done)|(simp[Act.eval];omega));simp only[if_true,if_false,Bool.false_eq_true,↓reduceIte])|((with_reducible apply aY (t:=true));(focus first|rfl|(simp[Act.eval];done)|(simp[Act.eval];omega));simp only[if_true,if_false,Bool.false_eq_true,↓reduceIte])|((with_reducible refine aH (v:= ?_) (o:= ?_) ?_ ?_ ?_ (λ_ _=> ?_) (λ_ _=> ?_) ?_);rotate_left 2;(focus exact rfl);(focus exact rfl);(focus k_ne);(focus (go_simp;(try w_num);first|done|exact rfl));(focus (simp[go_sem, *];done));walk_nrm)|((with_reducible refine bC (o:= ?_) ?_ ?_ ?_);rotate_left;(focus exact rfl);(focus exact rfl);walk_nrm)|((with_reducible apply dH);(focus rfl)))
  refine dw.halt λw₁ h₁=> ?_
  clear h₁
  refine⟨rfl,_,stepG_unwind_entry (v:=.tuple #[]) (evs:= #[mk .enable]) rfl H.f_enable (x_enable_n L) (x_enable_b L) (x_enable_x L) (x_enable_f L) (by simp[Extern.Race.none_]) (by simp[mk]) (by simp[mk]),1,?_⟩
  (refine oL rfl rfl H.f_add rfl ?_;walk_nrm)
  exact dw.halt λw₁ h₁=>rfl
 ·obtain⟨V,hV⟩:∃V:Int,V=(v:Int)+1:=⟨_,rfl⟩
  obtain⟨S,hS⟩:∃S:Int,S=V*KK:=⟨_,rfl⟩
  have eS:IntKind.u64.wrap ((v:Int)*KK+4294967296)=S:=by rw[IntKind.wrap_u64,hS,hV];simp only[KK];omega
  rw[<-hV,<-hS]
  have a1:S/4294967296=V:=by rw[hS];simp only[KK];omega
  have b1:bits .and .u64 S 2147483648=0:=by rw[hS,hV];have:=st_flag (v+1) 0 (by omega) (by omega);simpa [KK]using this
  have b2:bits .and .u64 S 2147483647=0:=by rw[hS,hV];have:=st_waiters (v+1) 0 (by omega) (by omega);simpa [KK]using this
  have c1:IntKind.i32.wrap V=V:=by rw[IntKind.wrap_i32];omega
  have hV1:1<V:=by omega
  have q1:(V==1)=false:=by simp;omega
  have q2:decide (V=1)=false:=decide_eq_false (by omega)
  have q3:decide (V<0)=false:=decide_eq_false (by omega)
  have q4:decide (0<V)=true:=decide_eq_true (by omega)
  have q5:(V==0)=false:=by simp;omega
  have q6:decide (V=0)=false:=decide_eq_false (by omega)
  refine⟨_,(stepG_add_atomic rfl rfl (by k_ne) rfl H.f_addU64 (x_addU64_n L) (x_addU64_b L) (x_addU64_x L) .u64 (x_addU64_f L) rfl rfl hw.cellSt (hw.thaw 0)).trans (by rw[eS];rfl),120,?_⟩
  clear hw hS hV eS
  walk_nrm
  repeat(first|(with_reducible apply bn)|(with_reducible apply aI)|((with_reducible apply gi_region);simp only[List.size_toArray,List.length_cons,List.length_nil,Nat.reduceAdd,Nat.zero_add,List.range,List.range.loop])|(with_reducible apply aK)|(with_reducible apply bY)|(with_reducible apply aT)|(with_reducible apply gi_loop)|(with_reducible apply bD)|(with_reducible apply dM)|(with_reducible apply bG)|((with_reducible apply aY (t:=false));(focus first|rfl|(simp[Act.eval];done)|(simp[Act.eval];omega));simp only[if_true,if_false,Bool.false_eq_true,↓reduceIte])|((with_reducible apply aY (t:=true));(focus first|rfl|(simp[Act.eval];done)|(simp[Act.eval];omega));simp only[if_true,if_false,Bool.false_eq_true,↓reduceIte])|((with_reducible refine aH (v:= ?_) (o:= ?_) ?_ ?_ ?_ (λ_ _=> ?_) (λ_ _=> ?_) ?_);rotate_left 2;(focus exact rfl);(focus exact rfl);(focus k_ne);(focus (go_simp;(try simp only[a1,b1,b2,c1,q1,q2,q3,q4,q5,q6]);(try w_num);first|done|exact rfl));(focus (simp[go_sem, *];done));walk_nrm)|((with_reducible refine bC (o:= ?_) ?_ ?_ ?_);rotate_left;(focus exact rfl);(focus exact rfl);walk_nrm)|(refine gK rfl rfl H.f_uAdd rfl ?_;walk_nrm))
  refine dw.halt λw₁ h₁=>.inl ?_
  clear h₁
  refine⟨rfl,_,stepG_unwind_entry (v:=.tuple #[]) (evs:= #[mk .enable]) rfl H.f_enable (x_enable_n L) (x_enable_b L) (x_enable_x L) (x_enable_f L) (by simp[Extern.Race.none_]) (by simp[mk]) (by simp[mk]),1,?_⟩
  (refine oL rfl rfl H.f_add rfl ?_;walk_nrm)
  exact dw.halt λw₁ h₁=>rfl
end
end Go.Proofs.YtlncengggmgdgaaGreat.par
