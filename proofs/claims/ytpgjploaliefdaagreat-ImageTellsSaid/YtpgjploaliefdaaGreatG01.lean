/- Small lemmas on worlds. -/
import Derived.Test.YtpgjploaliefdaaGreatProg
import Derived.WalkKit
import Derived.WalkSpells
import Derived.WalkLawsBesides
import Derived.Lib.Hide
namespace Go.Proofs.YtpgjploaliefdaaGreat
open Go.RowKit
set_option linter.unusedVariables false
set_option linter.unusedSimpArgs false
@[simp, go_sem] theorem alH(n:Nat):n<n+1+1:=by omega
@[simp, go_sem] theorem alI(n:Nat):n<=n+1+1:=by omega
@[simp, go_sem] theorem alJ(n:Nat):¬n=n+1+1:=by omega
@[simp, go_sem] theorem alK(n:Nat):¬n+1+1=n:=by omega
@[simp, go_sem] theorem alL(n:Nat):n<n+1+1+1:=by omega
@[simp, go_sem] theorem alM(n:Nat):n<=n+1+1+1:=by omega
@[simp, go_sem] theorem alN(n:Nat):¬n=n+1+1+1:=by omega
@[simp, go_sem] theorem alO(n:Nat):¬n+1+1+1=n:=by omega
@[simp, go_sem] theorem alP(n:Nat):n<n+1+1+1+1:=by omega
@[simp, go_sem] theorem alQ(n:Nat):n<=n+1+1+1+1:=by omega
@[simp, go_sem] theorem alR(n:Nat):¬n=n+1+1+1+1:=by omega
@[simp, go_sem] theorem alS(n:Nat):¬n+1+1+1+1=n:=by omega
@[simp, go_sem] theorem alT(n:Nat):n<n+1+1+1+1+1:=by omega
@[simp, go_sem] theorem alU(n:Nat):n<=n+1+1+1+1+1:=by omega
@[simp, go_sem] theorem alV(n:Nat):¬n=n+1+1+1+1+1:=by omega
@[simp, go_sem] theorem alW(n:Nat):¬n+1+1+1+1+1=n:=by omega
@[simp, go_sem] theorem alX(n:Nat):n<n+1+1+1+1+1+1:=by omega
@[simp, go_sem] theorem alY(n:Nat):n<=n+1+1+1+1+1+1:=by omega
@[simp, go_sem] theorem alZ(n:Nat):¬n=n+1+1+1+1+1+1:=by omega
@[simp, go_sem] theorem al0(n:Nat):¬n+1+1+1+1+1+1=n:=by omega
@[simp, go_sem] theorem al1(n:Nat):n<n+1+1+1+1+1+1+1:=by omega
@[simp, go_sem] theorem al2(n:Nat):n<=n+1+1+1+1+1+1+1:=by omega
@[simp, go_sem] theorem al3(n:Nat):¬n=n+1+1+1+1+1+1+1:=by omega
@[simp, go_sem] theorem al4(n:Nat):¬n+1+1+1+1+1+1+1=n:=by omega
@[simp, go_sem] theorem al5(n:Nat):n<n+1+1+1+1+1+1+1+1:=by omega
@[simp, go_sem] theorem al6(n:Nat):n<=n+1+1+1+1+1+1+1+1:=by omega
@[simp, go_sem] theorem al7(n:Nat):¬n=n+1+1+1+1+1+1+1+1:=by omega
@[simp, go_sem] theorem al8(n:Nat):¬n+1+1+1+1+1+1+1+1=n:=by omega
@[simp, go_sem] theorem al9(n:Nat):n<n+1+1+1+1+1+1+1+1+1:=by omega
@[simp, go_sem] theorem ama(n:Nat):n<=n+1+1+1+1+1+1+1+1+1:=by omega
@[simp, go_sem] theorem amb(n:Nat):¬n=n+1+1+1+1+1+1+1+1+1:=by omega
@[simp, go_sem] theorem amc(n:Nat):¬n+1+1+1+1+1+1+1+1+1=n:=by omega
@[simp, go_sem] theorem aiK(n:Nat):n<n+1+1+1+1+1+1+1+1+1+1:=by omega
@[simp, go_sem] theorem aiL(n:Nat):n<=n+1+1+1+1+1+1+1+1+1+1:=by omega
@[simp, go_sem] theorem aiM(n:Nat):¬n=n+1+1+1+1+1+1+1+1+1+1:=by omega
@[simp, go_sem] theorem aiN(n:Nat):¬n+1+1+1+1+1+1+1+1+1+1=n:=by omega
@[simp, go_sem] theorem aiO(n:Nat):n<n+1+1+1+1+1+1+1+1+1+1+1:=by omega
@[simp, go_sem] theorem aiP(n:Nat):n<=n+1+1+1+1+1+1+1+1+1+1+1:=by omega
@[simp, go_sem] theorem aiQ(n:Nat):¬n=n+1+1+1+1+1+1+1+1+1+1+1:=by omega
@[simp, go_sem] theorem aiR(n:Nat):¬n+1+1+1+1+1+1+1+1+1+1+1=n:=by omega
@[simp, go_sem] theorem aiS(n:Nat):n<n+1+1+1+1+1+1+1+1+1+1+1+1:=by omega
@[simp, go_sem] theorem aiT(n:Nat):n<=n+1+1+1+1+1+1+1+1+1+1+1+1:=by omega
@[simp, go_sem] theorem aiU(n:Nat):¬n=n+1+1+1+1+1+1+1+1+1+1+1+1:=by omega
@[simp, go_sem] theorem aiV(n:Nat):¬n+1+1+1+1+1+1+1+1+1+1+1+1=n:=by omega
@[simp, go_sem] theorem aiW(n:Nat):n<n+1+1+1+1+1+1+1+1+1+1+1+1+1:=by omega
@[simp, go_sem] theorem aiX(n:Nat):n<=n+1+1+1+1+1+1+1+1+1+1+1+1+1:=by omega
@[simp, go_sem] theorem aiY(n:Nat):¬n=n+1+1+1+1+1+1+1+1+1+1+1+1+1:=by omega
@[simp, go_sem] theorem aiZ(n:Nat):¬n+1+1+1+1+1+1+1+1+1+1+1+1+1=n:=by omega
@[simp, go_sem] theorem ai0(n:Nat):n<n+1+1+1+1+1+1+1+1+1+1+1+1+1+1:=by omega
@[simp, go_sem] theorem ai1(n:Nat):n<=n+1+1+1+1+1+1+1+1+1+1+1+1+1+1:=by omega
@[simp, go_sem] theorem ai2(n:Nat):¬n=n+1+1+1+1+1+1+1+1+1+1+1+1+1+1:=by omega
@[simp, go_sem] theorem ai3(n:Nat):¬n+1+1+1+1+1+1+1+1+1+1+1+1+1+1=n:=by omega
@[simp, go_sem] theorem ai4(n:Nat):n<n+1+1+1+1+1+1+1+1+1+1+1+1+1+1+1:=by omega
@[simp, go_sem] theorem ai5(n:Nat):n<=n+1+1+1+1+1+1+1+1+1+1+1+1+1+1+1:=by omega
@[simp, go_sem] theorem ai6(n:Nat):¬n=n+1+1+1+1+1+1+1+1+1+1+1+1+1+1+1:=by omega
@[simp, go_sem] theorem ai7(n:Nat):¬n+1+1+1+1+1+1+1+1+1+1+1+1+1+1+1=n:=by omega
@[simp, go_sem] theorem ai8(n:Nat):n<n+1+1+1+1+1+1+1+1+1+1+1+1+1+1+1+1:=by omega
@[simp, go_sem] theorem ai9(n:Nat):n<=n+1+1+1+1+1+1+1+1+1+1+1+1+1+1+1+1:=by omega
@[simp, go_sem] theorem aja(n:Nat):¬n=n+1+1+1+1+1+1+1+1+1+1+1+1+1+1+1+1:=by omega
@[simp, go_sem] theorem ajb(n:Nat):¬n+1+1+1+1+1+1+1+1+1+1+1+1+1+1+1+1=n:=by omega
@[simp, go_sem] theorem ajc(n:Nat):n<n+1+1+1+1+1+1+1+1+1+1+1+1+1+1+1+1+1:=by omega
@[simp, go_sem] theorem ajd(n:Nat):n<=n+1+1+1+1+1+1+1+1+1+1+1+1+1+1+1+1+1:=by omega
@[simp, go_sem] theorem aje(n:Nat):¬n=n+1+1+1+1+1+1+1+1+1+1+1+1+1+1+1+1+1:=by omega
@[simp, go_sem] theorem ajf(n:Nat):¬n+1+1+1+1+1+1+1+1+1+1+1+1+1+1+1+1+1=n:=by omega
@[simp, go_sem] theorem ajg(n:Nat):n<n+1+1+1+1+1+1+1+1+1+1+1+1+1+1+1+1+1+1:=by omega
@[simp, go_sem] theorem ajh(n:Nat):n<=n+1+1+1+1+1+1+1+1+1+1+1+1+1+1+1+1+1+1:=by omega
@[simp, go_sem] theorem aji(n:Nat):¬n=n+1+1+1+1+1+1+1+1+1+1+1+1+1+1+1+1+1+1:=by omega
@[simp, go_sem] theorem ajj(n:Nat):¬n+1+1+1+1+1+1+1+1+1+1+1+1+1+1+1+1+1+1=n:=by omega
@[simp, go_sem] theorem ajk(n:Nat):n<n+1+1+1+1+1+1+1+1+1+1+1+1+1+1+1+1+1+1+1:=by omega
@[simp, go_sem] theorem ajl(n:Nat):n<=n+1+1+1+1+1+1+1+1+1+1+1+1+1+1+1+1+1+1+1:=by omega
@[simp, go_sem] theorem ajm(n:Nat):¬n=n+1+1+1+1+1+1+1+1+1+1+1+1+1+1+1+1+1+1+1:=by omega
@[simp, go_sem] theorem ajn(n:Nat):¬n+1+1+1+1+1+1+1+1+1+1+1+1+1+1+1+1+1+1+1=n:=by omega
@[simp, go_sem] theorem ajo(n:Nat):n<n+1+1+1+1+1+1+1+1+1+1+1+1+1+1+1+1+1+1+1+1:=by omega
@[simp, go_sem] theorem ajp(n:Nat):n<=n+1+1+1+1+1+1+1+1+1+1+1+1+1+1+1+1+1+1+1+1:=by omega
@[simp, go_sem] theorem ajq(n:Nat):¬n=n+1+1+1+1+1+1+1+1+1+1+1+1+1+1+1+1+1+1+1+1:=by omega
@[simp, go_sem] theorem ajr(n:Nat):¬n+1+1+1+1+1+1+1+1+1+1+1+1+1+1+1+1+1+1+1+1=n:=by omega
@[simp, go_sem] theorem ajs(n:Nat):n<n+1+1+1+1+1+1+1+1+1+1+1+1+1+1+1+1+1+1+1+1+1:=by omega
@[simp, go_sem] theorem ajt(n:Nat):n<=n+1+1+1+1+1+1+1+1+1+1+1+1+1+1+1+1+1+1+1+1+1:=by omega
@[simp, go_sem] theorem aju(n:Nat):¬n=n+1+1+1+1+1+1+1+1+1+1+1+1+1+1+1+1+1+1+1+1+1:=by omega
@[simp, go_sem] theorem ajv(n:Nat):¬n+1+1+1+1+1+1+1+1+1+1+1+1+1+1+1+1+1+1+1+1+1=n:=by omega
@[simp, go_sem] theorem ajw(n:Nat):n<n+1+1+1+1+1+1+1+1+1+1+1+1+1+1+1+1+1+1+1+1+1+1:=by omega
@[simp, go_sem] theorem ajx(n:Nat):n<=n+1+1+1+1+1+1+1+1+1+1+1+1+1+1+1+1+1+1+1+1+1+1:=by omega
@[simp, go_sem] theorem ajy(n:Nat):¬n=n+1+1+1+1+1+1+1+1+1+1+1+1+1+1+1+1+1+1+1+1+1+1:=by omega
@[simp, go_sem] theorem ajz(n:Nat):¬n+1+1+1+1+1+1+1+1+1+1+1+1+1+1+1+1+1+1+1+1+1+1=n:=by omega
@[simp, go_sem] theorem ajA(n:Nat):n<n+1+1+1+1+1+1+1+1+1+1+1+1+1+1+1+1+1+1+1+1+1+1+1:=by omega
@[simp, go_sem] theorem ajB(n:Nat):n<=n+1+1+1+1+1+1+1+1+1+1+1+1+1+1+1+1+1+1+1+1+1+1+1:=by omega
@[simp, go_sem] theorem ajC(n:Nat):¬n=n+1+1+1+1+1+1+1+1+1+1+1+1+1+1+1+1+1+1+1+1+1+1+1:=by omega
@[simp, go_sem] theorem ajD(n:Nat):¬n+1+1+1+1+1+1+1+1+1+1+1+1+1+1+1+1+1+1+1+1+1+1+1=n:=by omega
@[simp, go_sem] theorem ajE(n:Nat):n<n+1+1+1+1+1+1+1+1+1+1+1+1+1+1+1+1+1+1+1+1+1+1+1+1:=by omega
@[simp, go_sem] theorem ajF(n:Nat):n<=n+1+1+1+1+1+1+1+1+1+1+1+1+1+1+1+1+1+1+1+1+1+1+1+1:=by omega
@[simp, go_sem] theorem ajG(n:Nat):¬n=n+1+1+1+1+1+1+1+1+1+1+1+1+1+1+1+1+1+1+1+1+1+1+1+1:=by omega
@[simp, go_sem] theorem ajH(n:Nat):¬n+1+1+1+1+1+1+1+1+1+1+1+1+1+1+1+1+1+1+1+1+1+1+1+1=n:=by omega
theorem ah{W w1:World}(hb:Below W.heap.size W w1){p:Addr}{v:Value}(h:W.cell? p=some v):w1.cell? p=some v:=by
 have hlt:p.block<W.heap.size:=by
  rcases Nat.lt_or_ge p.block W.heap.size with h1|h1
  ·exact h1
  ·simp[World.cell?,Array.getElem?_eq_none h1]at h
 rw[hb.cell hlt];exact h
theorem ajI{W w1:World}(hb:Below W.heap.size W w1){p q:Addr}{v u:Value}(h:W.cell? p=some v/\W.cell? q=some u):w1.cell? p=some v/\w1.cell? q=some u:=⟨ah hb h.1,ah hb h.2⟩
theorem vF{W w1:World}(hb:Below W.heap.size W w1):(∀b o,b<W.heap.size->w1.cell? ⟨b,o,none⟩=W.cell? ⟨b,o,none⟩)/\(∀b o,b<W.heap.size->w1.frozen? ⟨b,o,none⟩=W.frozen? ⟨b,o,none⟩):=
 ⟨λb o h=>hb.cell (p:=⟨b,o,none⟩) h,λb o h=>hb.frozen (p:=⟨b,o,none⟩) h⟩
theorem Lh{a b:Bool}{Q:Prop}(h:a=b)(hq:Q):Ending.returned (.bool a)=.returned (.bool b)/\Q:=by subst h;exact⟨rfl,hq⟩
theorem zi{k:IntKind}{a b:Int}{Q:Prop}(h:a=b)(hq:Q):Ending.returned (.int k a)=.returned (.int k b)/\Q:=by subst h;exact⟨rfl,hq⟩
theorem N8{k k':IntKind}{a b c d:Int}{Q:Prop}(h:a=b)(h':c=d)(hq:Q):Ending.returned (.tuple #[.int k a,.int k' c])=.returned (.tuple #[.int k b,.int k' d])/\Q:=by subst h;subst h';exact⟨rfl,hq⟩
theorem gu{a w:World}(h:Below a.heap.size a w)(o:Obj):Below a.heap.size a (w.alloc o):=h.alloc h.size o
theorem kP{a w:World}(h:Below a.heap.size a w):Below a.heap.size a w.drew:=h.drew
theorem au{a W w:World}(h:Below a.heap.size a W)(k:Below W.heap.size W w):Below a.heap.size a w:=h.trans (k.mono h.size)
theorem pV{a w:World}(h:Below a.heap.size a w){p:Addr}(hp:a.heap.size<=p.block)(u:Value):Below a.heap.size a (w.setCell p u):=h.setCell hp u
def aj(w:World)(n:Nat)(cs:Array Value)(T:TypeId):Prop:=w.heap[n]? =some (.cells cs T (0,0))
theorem aj.lt{w:World}{n:Nat}{cs:Array Value}{T:TypeId}(h:aj w n cs T):n<w.heap.size:=by
 unfold aj at h
 rcases Nat.lt_or_ge n w.heap.size with h1|h1
 ·exact h1
 ·rw[Array.getElem?_eq_none h1]at h;cases h
theorem aj.get{w:World}{n:Nat}{cs:Array Value}{T:TypeId}(h:aj w n cs T):n<w.heap.size/\(∀i,w.cell? ⟨n,i,none⟩=cs[i]?)/\∀i,w.frozen? ⟨n,i,none⟩=false:=by
 refine⟨h.lt,λi=> ?_,λi=> ?_⟩
 ·unfold aj at h;simp[World.cell?,h]
 ·unfold aj at h;simp[World.frozen?,h]
theorem aj.new(w:World)(cs:Array Value)(T:TypeId):aj (w.alloc (.cells cs T)) w.heap.size cs T:=by
 unfold aj;show(w.heap.push _)[w.heap.size]? =_;simp
theorem aj.mk{w:World}{n:Nat}{cs:Array Value}{T:TypeId}(h:n=w.heap.size):aj (w.alloc (.cells cs T)) n cs T:=by subst h;exact aj.new w cs T
theorem aj.tr{W w:World}{n:Nat}{cs:Array Value}{T:TypeId}(h:aj W n cs T)(hb:Below W.heap.size W w):aj w n cs T:=(hb.block n h.lt).trans h
theorem aj.alloc{w:World}{n:Nat}{cs:Array Value}{T:TypeId}(h:aj w n cs T)(o:Obj):aj (w.alloc o) n cs T:=(Below.heap_alloc w o n h.lt).trans h
theorem aj.drew{w:World}{n:Nat}{cs:Array Value}{T:TypeId}(h:aj w n cs T):aj w.drew n cs T:=h
theorem aj.other{w:World}{n:Nat}{cs:Array Value}{T:TypeId}(h:aj w n cs T){p:Addr}(hp:n≠p.block)(v:Value):aj (w.setCell p v) n cs T:=(Below.heap_setCell w p v n hp).trans h
theorem aj.set{w:World}{n:Nat}{cs:Array Value}{T:TypeId}(h:aj w n cs T)(i:Nat)(v:Value):aj (w.setCell ⟨n,i,none⟩ v) n (cs.setIfInBounds i v) T:=by
 unfold aj at h⊢
 simp only[World.setCell,Array.getElem?_modify,if_pos,h]
 simp
theorem aj.raw{w:World}{n:Nat}{cs:Array Value}{T:TypeId}(h:aj w n cs T):w.heap[n]? =some (.cells cs T (0,0)):=h
theorem aj.of{w:World}{n:Nat}{cs:Array Value}{T:TypeId}(h:w.heap[n]? =some (.cells cs T (0,0))):aj w n cs T:=h
theorem bk{w:World}{n:Nat}{cs:Array Value}{T:TypeId}(h:aj w n cs T:=by(repeat(first|with_reducible assumption|exact aj.mk rfl|exact aj.mk (by simp)|refine aj.drew ?_|refine aj.alloc ?_ _|refine aj.tr ?_ (by with_reducible assumption)))):aj w n cs T:=h
theorem bm{n:Nat}{a w:World}(h:Below n a w:=by(repeat(first|with_reducible exact Below.refl _ _|with_reducible refine gu ?_ _|with_reducible refine kP ?_|with_reducible refine below_drewN ?_ _|with_reducible refine pV ?_ (by first|omega|(simp;done)|(simp;omega)) _|with_reducible refine au ?_ (by with_reducible assumption)))):Below n a w:=h
attribute [irreducible] aj
theorem qL{n:Int}(h:(Lit.int .i64 n).wf=true): -9223372036854775808<=n/\n<9223372036854775808:=by
 simp[Lit.wf,IntKind.min,IntKind.max,IntKind.signed,IntKind.bits]at h;omega
theorem wZ{n:Int}(h:(Lit.int .u64 n).wf=true):0<=n/\n<18446744073709551616:=by
 simp[Lit.wf,IntKind.min,IntKind.max,IntKind.signed,IntKind.bits]at h;omega
theorem aeQ{n:Int}(h:(Lit.int .u32 n).wf=true):0<=n/\n<4294967296:=by
 simp[Lit.wf,IntKind.min,IntKind.max,IntKind.signed,IntKind.bits]at h;omega
theorem afE{n:Int}(h:(Lit.int .u8 n).wf=true):0<=n/\n<256:=by
 simp[Lit.wf,IntKind.min,IntKind.max,IntKind.signed,IntKind.bits]at h;omega
def ajJ(k:IntKind)(w:World)(a:Option Addr)(len cap:Nat)(zs:List Int):Prop:=
 (a=none/\len=0/\cap=0/\zs=[])\/
 ∃x,a=some x/\len<=cap/\cap<=maxLen/\zs.length=cap/\(∀i,i<zs.length->w.cell? (x.add i)=some (.int k (zs.getD i 0)))/\∀n∈zs,(Lit.int k n).wf=true
structure Only(n:Nat)(w w':World):Prop where
 os:w'.os=w.os
 tape:w'.tape=w.tape
 output:w'.output=w.output
 size:w.heap.size<=w'.heap.size
 block:∀k,k<w.heap.size->k≠n->w'.heap[k]? =w.heap[k]?
theorem Only.refl(n:Nat)(w:World):Only n w w:=⟨rfl,rfl,rfl,Nat.le_refl _,λ_ _ _=>rfl⟩
theorem Only.trans{n:Nat}{a b c:World}(h:Only n a b)(k:Only n b c):Only n a c:=
 ⟨k.os.trans h.os,k.tape.trans h.tape,k.output.trans h.output,Nat.le_trans h.size k.size,λi hi hn=>(k.block i (Nat.lt_of_lt_of_le hi h.size) hn).trans (h.block i hi hn)⟩
theorem Only.drew{n:Nat}{a w:World}(h:Only n a w):Only n a w.drew:=⟨h.os,h.tape,h.output,h.size,h.block⟩
theorem Only.alloc{n:Nat}{a w:World}(h:Only n a w)(o:Obj):Only n a (w.alloc o):=
 h.trans ⟨rfl,rfl,rfl,by simp,λk hk _=>Below.heap_alloc _ _ _ hk⟩
theorem Only.set{n:Nat}{a w:World}(h:Only n a w)(i:Nat)(u:Value):Only n a (w.setCell ⟨n,i,none⟩ u):=
 h.trans ⟨rfl,rfl,rfl,by simp[World.setCell],λk _ hn=>Below.heap_setCell _ _ _ _ hn⟩
theorem Only.below{n:Nat}{a W w:World}(hb:Below a.heap.size a W)(h:Only n W w)(hn:a.heap.size<=n):Below a.heap.size a w:=
 hb.trans ⟨h.os,h.tape,h.output,h.size,λk hk=>h.block k (Nat.lt_of_lt_of_le hk hb.size) (by omega)⟩
theorem Only.of_below{n:Nat}{W w:World}(h:Below W.heap.size W w):Only n W w:=⟨h.os,h.tape,h.output,h.size,λk hk _=>h.block k hk⟩
theorem aj.only{W w:World}{n m:Nat}{cs:Array Value}{T:TypeId}(h:aj W n cs T)(ho:Only m W w)(hn:n≠m):aj w n cs T:=by
 have hl:=h.lt
 unfold aj at h⊢
 exact(ho.block n hl hn).trans h
theorem qM{cs:Array Value}{i j:Nat}{v:Value}(h:i≠j):(cs.setIfInBounds i v)[j]? =cs[j]? :=by simp[h]
theorem Dj{cs:Array Value}{i:Nat}{v:Value}(h:i<cs.size):(cs.setIfInBounds i v)[i]? =some v:=by simp[h]
theorem Zo(n:Int)(h:0<=n/\n<4294967296):IntKind.u32.wrap n=n:=by
 simp only[IntKind.wrap,IntKind.signed,IntKind.bits];simp;omega
theorem Am(n:Int)(h:0<=n/\n<18446744073709551616):IntKind.u64.wrap n=n:=by
 simp only[IntKind.wrap,IntKind.signed,IntKind.bits];simp;omega
theorem II(n:Int)(h:0<=n/\n<256):IntKind.u8.wrap n=n:=by
 simp only[IntKind.wrap,IntKind.signed,IntKind.bits];simp;omega
theorem fK(n:Int)(h: -9223372036854775808<=n/\n<9223372036854775808):IntKind.i64.wrap n=n:=by
 simp only[IntKind.wrap,IntKind.signed,IntKind.bits];simp;omega
end Go.Proofs.YtpgjploaliefdaaGreat
namespace Go.Proofs.YtpgjploaliefdaaGreat.hd
open Go.RowKit
set_option linter.unusedVariables false
set_option linter.unusedSimpArgs false
def bJ(s p:Int):Bool:=decide (0<=s/\s<=255/\0<=p/\p<=s)
theorem kJ{s p:Int}(h:bJ s p=true):0<=s/\s<=255/\0<=p/\p<=s:=by simpa [bJ]using h
def bV(s p:Int):Int:=if bJ s p then 2*s+131072*p else 0
def uN(s p:Int):Int:=if bJ s p then 0 else 1
def jF(w:Int):Bool:=decide (w%2=0)&&bJ (w/2%65536) (w/131072)
def rD(w:Int):Int:=if jF w then w/2%65536 else 0
def BL(w:Int):Int:=if jF w then w/131072 else 0
def rE(w:Int):Int:=if jF w then 0 else 3
def Fp(a:Int):Bool:=decide (1<=a/\a<=9223372036854775807)
def amd(a:Int):Int:=if Fp a then 2*a+1 else 0
def ame(a:Int):Int:=if Fp a then 0 else 1
def gB(w:Int):Int:=if w%2=0\/w=1 then 0 else w/2
def mD(w:Int):Int:=if w=0 then 6 else if w%2=0\/w=1 then 3 else 0
theorem kY(s p:Int)(w:World):
  Calls Tryz.prog 74 #[.agg #[.int .i64 s,.int .i64 p]] w λe w'=>e=.returned (.bool (bJ s p))/\Below w.heap.size w w':=by
 go_enter Tryz.func74,Tryz.ntmps74
 go_wp2
 all_goals go_ret
 all_goals exact Lh (by unfold bJ;rw[Bool.eq_iff_iff];simp;try omega) ((Below.refl _ _).alloc (Nat.le_refl _) _)
theorem pF(s p:Int)(w:World):
  Calls Tryz.prog 70 #[.agg #[.int .i64 s,.int .i64 p]] w λe w'=>e=.returned (.bool (bJ s p))/\Below w.heap.size w w':=by
 go_enter Tryz.func70,Tryz.ntmps70
 go_wp2
 all_goals go_ret
 all_goals exact Lh (by unfold bJ;rw[Bool.eq_iff_iff];simp;try omega) ((Below.refl _ _).alloc (Nat.le_refl _) _)
theorem qN(s p:Int)(w:World):
  Calls Tryz.prog 40 #[.agg #[.int .i64 s,.int .i64 p]] w λe w'=>e=.returned (.tuple #[.int .u64 (bV s p),.int .i64 (uN s p)])/\Below w.heap.size w w':=by
 rcases hr:bJ s p with _|_
 ·go_enter Tryz.func40,Tryz.ntmps40
  go_wp2_with (go_at_call 70;refine(pF _ _ _).mono ?_;rintro e w1 ⟨rfl,hb⟩)
  go_ret2
  exact N8 (by simp[bV,hr]) (by simp[uN,hr]) (((Below.refl _ _).alloc (Nat.le_refl _) _).trans (hb.mono (by simp)))
 ·obtain⟨h1,h2,h3,h4⟩:=kJ hr
  go_enter Tryz.func40,Tryz.ntmps40
  go_wp2_with fail
  refine(pF _ _ _).mono ?_;rintro e w1 ⟨rfl,hb⟩
  obtain⟨hc,hf⟩:=vF hb
  go_wp2_with fail
  go_ret2
  exact N8 (by simp[bV,hr];try omega) (by simp[uN,hr]) (((Below.refl _ _).alloc (Nat.le_refl _) _).trans (hb.mono (by simp)))
theorem aeR{a:Int}(h:Fp a=true):1<=a/\a<=9223372036854775807:=by simpa [Fp]using h
theorem aeS{a:Int}(h:Fp a=false):a<1\/9223372036854775807<a:=by simp[Fp]at h;omega
theorem lJ(a:Int)(w:World)(h1:0<=a)(h2:a<18446744073709551616):
  Calls Tryz.prog 52 #[.int .u64 a] w λe w'=>e=.returned (.tuple #[.int .u64 (gB a),.int .i64 (mD a)])/\w=w':=by
 go_enter Tryz.func52,Tryz.ntmps52
 go_wp2
 all_goals go_ret2
 all_goals exact N8 (by unfold gB;((try simp only[beq_iff_eq,beq_eq_false_iff_ne,ne_eq]at*);(repeat' split)<;>omega)) (by unfold mD;((try simp only[beq_iff_eq,beq_eq_false_iff_ne,ne_eq]at*);(repeat' split)<;>omega)) rfl
theorem iT(a:Int)(w:World)(h1:0<=a)(h2:a<18446744073709551616):
  Calls Tryz.prog 53 #[.int .u64 a] w λe w'=>e=.returned (.tuple #[.int .u64 (gB a),.int .i64 (mD a)])/\w=w':=by
 go_enter Tryz.func53,Tryz.ntmps53
 go_wp2
 all_goals go_ret2
 all_goals exact N8 (by unfold gB;((try simp only[beq_iff_eq,beq_eq_false_iff_ne,ne_eq]at*);(repeat' split)<;>omega)) (by unfold mD;((try simp only[beq_iff_eq,beq_eq_false_iff_ne,ne_eq]at*);(repeat' split)<;>omega)) rfl
theorem N9{a:Int}{b:Bool}(h:a%2=0)(hb:(!bJ (a/2%65536) (a/131072))=b):jF a= !b:=by
 rw[<-hb];simp[jF,h]
theorem Ti{a:Int}(h:¬a%2=0):jF a=false:=by simp[jF,h]
theorem mM(a:Int)(w:World)(h1:0<=a)(h2:a<18446744073709551616):
  Calls Tryz.prog 124 #[.int .u64 a] w λe w'=>e=.returned (.tuple #[.agg #[.int .i64 (rD a),.int .i64 (BL a)],.int .i64 (rE a)])/\Below w.heap.size w w':=by
 by_cases h3:a%2=0
 ·go_enter Tryz.func124,Tryz.ntmps124
  go_wp2_with fail
  refine(kY _ _ _).mono ?_;rintro e w1 ⟨rfl,hb⟩
  obtain⟨hbc,hbf⟩:=vF hb
  have hbz:=hb.size
  go_wp2_with fail
  ·rename_i hq
   have hu:=N9 h3 hq
   refine bodyPost_ret (v:=.tuple #[.agg #[.int .i64 0,.int .i64 0],.int .i64 3]) (by simp only[results,Tryz.results124];go_simp) rfl ⟨?_,?_⟩
   ·simp[rD,BL,rE,hu]
   ·exact bm
  ·rename_i hq
   have hu:=N9 h3 hq
   refine bodyPost_ret (v:=.tuple #[.agg #[.int .i64 (a/2%65536),.int .i64 (a/131072)],.int .i64 0]) (by simp only[results,Tryz.results124];go_simp) rfl ⟨?_,?_⟩
   ·simp[rD,BL,rE,hu]
   ·exact bm
 ·have hu:=Ti h3
  go_enter Tryz.func124,Tryz.ntmps124
  go_wp2_with fail
  refine bodyPost_ret (v:=.tuple #[.agg #[.int .i64 0,.int .i64 0],.int .i64 3]) (by simp only[results,Tryz.results124];go_simp) rfl ⟨?_,?_⟩
  ·simp[rD,BL,rE,hu]
  ·exact bm
theorem Tj(s p:Int):uN s p=0↔bJ s p=true:=by unfold uN;split<;>simp_all
theorem Tm{a:Int}(h1:0<=a)(h2:a<18446744073709551616):jF a=decide (uN (a/2%65536) (a/131072%65536)=0/\bV (a/2%65536) (a/131072%65536)=a):=by
 rw[Bool.eq_iff_iff,decide_eq_true_eq,Tj]
 simp only[jF,bJ,bV,Bool.and_eq_true,decide_eq_true_eq]
 constructor
 ·intro h
  have e:a/131072%65536=a/131072:=by omega
  rw[e,if_pos (by omega)]
  omega
 ·rintro⟨h,k⟩
  rw[if_pos h]at k
  omega
theorem WR{a:Int}(h1:0<=a)(h2:a<18446744073709551616)(h:jF a=true):a/131072%65536=a/131072:=by
 simp only[jF,bJ,Bool.and_eq_true,decide_eq_true_eq]at h;omega
theorem kK(a:Int)(w:World)(h1:0<=a)(h2:a<18446744073709551616):
  Calls Tryz.prog 72 #[.int .u64 a] w λe w'=>e=.returned (.tuple #[.agg #[.int .i64 (rD a),.int .i64 (BL a)],.int .i64 (rE a)])/\Below w.heap.size w w':=by
 have g1:0<=bV (a/2%65536) (a/131072%65536):=by unfold bV bJ;split<;>simp_all<;>omega
 have HO:=Lib.hid (Tm h1 h2)
 have HP:=Lib.hid (WR h1 h2)
 go_enter Tryz.func72,Tryz.ntmps72
 go_wp2_with fail
 refine(qN _ _ _).mono ?_;rintro e w1 ⟨rfl,hb⟩
 obtain⟨hbc,hbf⟩:=vF hb
 have hbz:=hb.size
 go_wp2_with fail
 ·rename_i hq1 hq2
  have hu:jF a=false:=by rw[HO.out];simp at hq2⊢;intro _;exact hq2
  refine bodyPost_ret (v:=.tuple #[.agg #[.int .i64 0,.int .i64 0],.int .i64 3]) (by simp only[results,Tryz.results72];go_simp) rfl ⟨?_,?_⟩
  ·simp[rD,BL,rE,hu]
  ·exact bm
 ·rename_i hq1 hq2
  have hu:jF a=true:=by rw[HO.out];simp at hq2⊢;exact⟨hq1,hq2⟩
  refine bodyPost_ret (v:=.tuple #[.agg #[.int .i64 (a/2%65536),.int .i64 (a/131072%65536)],.int .i64 0]) (by simp only[results,Tryz.results72];go_simp) rfl ⟨?_,?_⟩
  ·have:=HP.out hu;simp[rD,BL,rE,hu,this]
  ·exact bm
 ·rename_i hq1
  have hu:jF a=false:=by rw[HO.out];simp[hq1]
  refine bodyPost_ret (v:=.tuple #[.agg #[.int .i64 0,.int .i64 0],.int .i64 3]) (by simp only[results,Tryz.results72];go_simp) rfl ⟨?_,?_⟩
  ·simp[rD,BL,rE,hu]
  ·exact bm
theorem jS{s p:Int}(h:0<=s/\s<=255/\0<=p/\p<=s):bJ s p=true:=by simp[bJ,h]
theorem abA(s p:Int)(w:World)(h:0<=s/\s<=255/\0<=p/\p<=s):
  Calls Tryz.prog 124 #[.int .u64 (2*s+131072*p)] w λe w'=>e=.returned (.tuple #[.agg #[.int .i64 s,.int .i64 p],.int .i64 0])/\Below w.heap.size w w':=by
 have h3:jF (2*s+131072*p)=true:=by simp[jF,bJ];omega
 refine(mM _ w (by omega) (by omega)).mono λe w'⟨h1,h2⟩=>⟨?_,h2⟩
 rw[h1];simp[rD,BL,rE,h3];omega
theorem aeT(a:Int)(w:World)(h:1<=a/\a<=9223372036854775807):
  Calls Tryz.prog 52 #[.int .u64 (2*a+1)] w λe w'=>e=.returned (.tuple #[.int .u64 a,.int .i64 0])/\w=w':=
 (lJ _ w (by omega) (by omega)).mono λe w'⟨h1,h2⟩=>⟨by
  rw[h1];simp only[gB,mD];rw[if_neg (by omega),if_neg (by omega),if_neg (by omega)];rw[show(2*a+1)/2=a from by omega],h2⟩
theorem WS(n:Nat):n|||1=2*(n/2)+1:=by
 have h1:(n|||1)/2=n/2:=by rw[Nat.or_div_two];simp
 have h2:(n|||1)%2=1:=by rw[Nat.or_mod_two_eq_one];simp
 omega
theorem WT(n:Int)(h1:0<=n)(h2:n<18446744073709551616):bits .or .u64 n 1=2*(n/2)+1:=by
 obtain⟨k,rfl⟩:=Int.eq_ofNat_of_zero_le h1
 have:=u64_or_nat k 1 (by omega) (by omega)
 rw[show((1:Nat):Int)=1 from rfl]at this
 rw[this,WS];omega
theorem afF(x:Int)(h1:0<=x/\x<18446744073709551616):∃p:Int,bits .or .u64 (x/2) 1=p/\1<=p/\p<=9223372036854775807:=
 ⟨_,WT (x/2) (by omega) (by omega),by omega,by omega⟩
end Go.Proofs.YtpgjploaliefdaaGreat.hd
namespace Go.Proofs.YtpgjploaliefdaaGreat.ob
open Go.RowKit hd
set_option linter.unusedVariables false
set_option linter.unusedSimpArgs false
def oO(x:Int):Bool:=decide (x=0\/(x%2=1/\x≠1))
theorem Oa(x:Int):oO x=(decide (x=0)||decide (mD x=0)):=by
 unfold oO mD
 rw[Bool.eq_iff_iff]
 simp
 repeat' split
 all_goals omega
theorem IJ(x:Int)(w:World)(h1:0<=x)(h2:x<18446744073709551616):
  Calls Tryz.prog 144 #[.int .u64 x] w λe w'=>e=.returned (.bool (oO x))/\w=w':=by
 have HP:=Lib.hid (Oa x)
 go_enter Tryz.func144,Tryz.ntmps144
 go_wp2_with fail
 refine(lJ x _ h1 h2).mono ?_;rintro e ww ⟨rfl,rfl⟩
 generalize mD x=E at*
 go_wp2_with fail
 all_goals go_ret
 all_goals (refine⟨?_,rfl⟩;rw[HP.out];simp_all;try rw[Bool.eq_iff_iff];try simp_all)
def rF(k:Int):Value:=.iface 192 (.agg #[.int .i64 k])
structure Ob where
 pos:Int
 s:Int
 p:Int
 g:Bool
 t:Int
def oV(o:Ob):Value:=.agg #[.int .i64 o.pos,.int .i64 o.s,.int .i64 o.p,.bool o.g,.int .u64 o.t]
theorem Zp(W:World):Sem.run Tryz.prog (binOp .neq 193 .nilFunc .nilFunc) W=.ok (.bool false) W:=by kernel_rfl
theorem WU(f:Fn)(a c:Array Value)(W:World):Sem.run Tryz.prog (binOp .neq 193 (.func f a c) .nilFunc) W=.ok (.bool true) W:=by kernel_rfl
def Pm(pos:Nat)(x:Int)(e:Ending):Prop:=jF x=true/\e=.returned (oV ⟨pos,rD x,BL x,false,0⟩)\/jF x=false/\e=.panicked [{v:=rF 3,recovered:=false}]
set_option maxHeartbeats 1000000 in
theorem Pn(b off len cap pos:Nat)(x:Int)(w:World)(hp:pos<len)(hl:len<9223372036854775808)(hx:w.cell? ⟨b,off+pos,none⟩=some (.int .u64 x))(h1:0<=x)(h2:x<18446744073709551616):
  Calls Tryz.prog 136 #[.slice (some ⟨b,off,none⟩) len cap,.int .i64 pos,.nilFunc] w λe w'=>Pm pos x e/\Below w.heap.size w w':=by
 have hlt:b<w.heap.size:=World.block_lt_of_cell? _ _ hx
 have hn0:b≠w.heap.size:=by omega
 have hn1:b≠w.heap.size+1:=by omega
 have hs0:b<w.heap.size+1:=by omega
 have hs1:b<w.heap.size+1+1:=by omega
 go_enter Tryz.func136,Tryz.ntmps136
 go_wp2_with fail
 refine(lJ x _ h1 h2).mono ?_;rintro e ww ⟨rfl,rfl⟩
 have hnn:=Zp
 rcases hu:jF x with _|_
 ·have hE:rE x=3:=by simp[rE,hu]
  go_wp2_with fail
  refine(mM x _ h1 h2).mono ?_;rintro e w1 ⟨rfl,k1⟩
  rw[hE]
  go_wp2_with fail
  refine⟨rfl,.inr ⟨hu,rfl⟩,?_⟩
  exact bm
 ·have hE:rE x=0:=by simp[rE,hu]
  go_wp2_with fail
  refine(mM x _ h1 h2).mono ?_;rintro e w1 ⟨rfl,k1⟩
  rw[hE]
  have Ko:aj w1 (w.heap.size+1) #[.int .i64 pos,.int .i64 0,.int .i64 0,.bool false,.int .u64 0] 58:=aj.tr (by exact bk) k1
  have Kr:aj w1 w.heap.size #[.int .i64 0,.int .i64 0,.int .i64 0,.bool false,.int .u64 0] 58:=aj.tr (by exact bk) k1
  obtain⟨lo,co,fo⟩:=Ko.get
  obtain⟨lr,cr,fr⟩:=Kr.get
  go_wp2_with fail
  refine bodyPost_ret (v:=oV ⟨pos,rD x,BL x,false,0⟩) (by simp only[results,Tryz.results136];go_simp;rfl) rfl ⟨.inl ⟨hu,rfl⟩,?_⟩
  exact bm
def gU(o:Ob)(i:Nat)(x:Int):Bool:=if o.g then decide (x=0)else(!decide ((i:Int)<o.p)||oO x)
def oP(o:Ob)(zs:List Int)(k:Nat):Prop:=∀i,i<k->gU o i (zs.getD (o.pos.toNat+1+i) 0)=true
def Tn(o:Ob)(pos S len:Nat)(zs:List Int)(e:Ending):Prop:=len<pos+1+S/\e=.panicked [{v:=rF 2,recovered:=false}]\/pos+1+S<=len/\oP o zs S/\e=.returned (.tuple #[])\/pos+1+S<=len/\¬oP o zs S/\e=.panicked [{v:=rF 3,recovered:=false}]
theorem GL{o:Ob}{zs:List Int}{k:Nat}(h:oP o zs k):gU o k (zs.getD (o.pos.toNat+1+k) 0)=true->oP o zs (k+1):=λg i hi=>by
 by_cases e:i<k
 ·exact h i e
 ·obtain rfl:i=k:=by omega
  exact g
theorem IK{o:Ob}{zs:List Int}{k n:Nat}(h:k<n):gU o k (zs.getD (o.pos.toNat+1+k) 0)=false->¬oP o zs n:=λg q=>by
 have:=q k h;rw[g]at this;cases this
set_option maxHeartbeats 2000000 in
theorem Tq(b off len cap pos S:Nat)(p t:Int)(g:Bool)(zs:List Int)(w:World)(hp:pos<len)(hc:len<=cap)(hl:cap<9223372036854775808)(hS:S<=255)(hx:∀i,i<len->w.cell? ⟨b,off+i,none⟩=some (.int .u64 (zs.getD i 0)))(hz:∀i,0<=zs.getD i 0/\zs.getD i 0<18446744073709551616):
  Calls Tryz.prog 137 #[.slice (some ⟨b,off,none⟩) len cap,oV ⟨pos,S,p,g,t⟩] w λe w'=>Tn ⟨pos,S,p,g,t⟩ pos S len zs e/\Below w.heap.size w w':=by
 have hx0:=hx pos hp
 have hlt:b<w.heap.size:=World.block_lt_of_cell? _ _ hx0
 have hn0:b≠w.heap.size:=by omega
 have hs0:b<w.heap.size+1:=by omega
 unfold oV
 go_enter Tryz.func137,Tryz.ntmps137
 clear hx0
 have HX:=Lib.hid hx
 have HZ:=Lib.hid hz
 clear hx hz
 by_cases hcap:cap=pos+1
 ·obtain rfl:len=cap:=by omega
  subst hcap
  by_cases hS0:S=0
  ·subst hS0
   go_wp2_with fail
   go_loop [26] (λi=>i=.int .i64 0) (λ_=>0)
   case atStart=>rfl
   case round=>
    subst hrel
    go_wp2_with fail
    go_end0
    refine⟨.inr (.inl ⟨by omega,λi hi=>by omega,rfl⟩),?_⟩
    exact bm
  ·have h1:(0:Int)<(S:Int):=by omega
   go_wp2_with fail
   refine⟨rfl,.inl ⟨by omega,rfl⟩,?_⟩
   exact bm
 ·have hcp:0<cap-(pos+1):=by omega
  by_cases hsh:len<pos+1+S
  ·have h1:(((len-(pos+1):Nat):Int))<(S:Int):=by omega
   go_wp2_with fail
   refine⟨rfl,.inl ⟨by omega,rfl⟩,?_⟩
   exact bm
  ·have h1:¬(((len-(pos+1):Nat):Int))<(S:Int):=by omega
   clear h1
   have hSl:S<=len-(pos+1):=by omega
   go_wp2_with fail
   rw[show decide (len-(pos+1)<S)=false from decide_eq_false (by omega)]
   go_loop [26] (λi=>∃k:Nat,k<=S/\i=.int .i64 k/\Hid (oP ⟨pos,S,p,g,t⟩ zs k)) (λi=>S-(intOf i).toNat)
   case atStart=>exact⟨0,Nat.zero_le _,rfl,λi hi=>by omega⟩
   case round=>
    obtain⟨k,hk,rfl,hok⟩:=hrel
    by_cases hlk:k<S
    ·have hxk:=HX.out (pos+1+k) (by omega)
     have rU:=HZ.out (pos+1+k)
     rw[show off+(pos+1+k)=off+(pos+1)+k from by omega]at hxk
     have HG:=Lib.hid (GL (o:=⟨pos,S,p,g,t⟩) (zs:=zs) hok.out)
     have HB:=Lib.hid (IK (o:=⟨pos,S,p,g,t⟩) (zs:=zs) (n:=S) hlk)
     simp only[Int.toNat_natCast]at HG HB
     generalize zs.getD (pos+1+k) 0=x at*
     have ajK:S-(intOf (.int .i64 ((k:Int)+1))).toNat<S-(intOf (.int .i64 (k:Int))).toNat:=by simp[intOf];omega
     cases g with
     |true=>
      by_cases hx0:x=0
      ·have hxb:(x==0)=true:=by simp[hx0]
       go_wp2_with fail
       exact⟨⟨k+1,by omega,by go_num,HG.out (by simp[gU,hx0])⟩,by simp[intOf];omega⟩
      ·have hxb:(x==0)=false:=by simp[hx0]
       go_wp2_with fail
       refine⟨rfl,.inr (.inr ⟨by omega,HB.out (by simp[gU,hx0]),rfl⟩),?_⟩
       exact bm
     |false=>
      by_cases hkp:(k:Int)<p
      ·have hkd:decide ((k:Int)<p)=true:=decide_eq_true hkp
       go_wp2_with fail
       refine(IJ x _ rU.1 rU.2).mono ?_;rintro e ww ⟨rfl,rfl⟩
       rcases hpb:oO x with _|_
       ·go_wp2_with fail
        refine⟨rfl,.inr (.inr ⟨by omega,HB.out (by simp[gU,hkp,hpb]),rfl⟩),?_⟩
        exact bm
       ·go_wp2_with fail
        exact⟨⟨k+1,by omega,by go_num,HG.out (by simp[gU,hpb])⟩,by simp[intOf];omega⟩
      ·have hkd:decide ((k:Int)<p)=false:=decide_eq_false hkp
       go_wp2_with fail
       exact⟨⟨k+1,by omega,by go_num,HG.out (by simp[gU,hkp])⟩,by simp[intOf];omega⟩
    ·obtain rfl:k=S:=by omega
     go_wp2_with fail
     go_end0
     refine⟨.inr (.inl ⟨by omega,hok.out,rfl⟩),?_⟩
     exact bm
end Go.Proofs.YtpgjploaliefdaaGreat.ob
