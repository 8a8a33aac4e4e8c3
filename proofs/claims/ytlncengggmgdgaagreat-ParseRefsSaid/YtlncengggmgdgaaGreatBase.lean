/- Small lemmas on worlds. -/
import Derived.Test.YtlncengggmgdgaaGreatProg
import Derived.WalkKit
import Derived.WalkSpells
import Derived.WalkLawsBesides
import Derived.Lib.Hide
set_option linter.unusedVariables false
set_option linter.unusedSimpArgs false
namespace Go.Proofs.YtlncengggmgdgaaGreat
open Go.RowKit
@[simp, go_sem] theorem alK(n:Nat):n<n+1+1:=by omega
@[simp, go_sem] theorem alL(n:Nat):n<=n+1+1:=by omega
@[simp, go_sem] theorem alM(n:Nat):¬n+1+1=n:=by omega
@[simp, go_sem] theorem alN(n:Nat):n<n+1+1+1:=by omega
@[simp, go_sem] theorem alO(n:Nat):n<=n+1+1+1:=by omega
@[simp, go_sem] theorem alP(n:Nat):¬n+1+1+1=n:=by omega
@[simp, go_sem] theorem alQ(n:Nat):n<n+1+1+1+1:=by omega
@[simp, go_sem] theorem alR(n:Nat):n<=n+1+1+1+1:=by omega
@[simp, go_sem] theorem alS(n:Nat):¬n+1+1+1+1=n:=by omega
@[simp, go_sem] theorem alT(n:Nat):n<n+1+1+1+1+1:=by omega
@[simp, go_sem] theorem alU(n:Nat):¬n+1+1+1+1+1=n:=by omega
@[simp, go_sem] theorem alV(n:Nat):n<n+1+1+1+1+1+1:=by omega
@[simp, go_sem] theorem alW(n:Nat):¬n+1+1+1+1+1+1=n:=by omega
@[simp, go_sem] theorem alX(n:Nat):n<n+1+1+1+1+1+1+1:=by omega
@[simp, go_sem] theorem alY(n:Nat):n<n+1+1+1+1+1+1+1+1:=by omega
@[simp, go_sem] theorem alZ(n:Nat):n<n+1+1+1+1+1+1+1+1+1:=by omega
@[simp, go_sem] theorem akg(n:Nat):n<n+1+1+1+1+1+1+1+1+1+1:=by omega
@[simp, go_sem] theorem akh(n:Nat):n<n+1+1+1+1+1+1+1+1+1+1+1:=by omega
@[simp, go_sem] theorem aki(n:Nat):n<n+1+1+1+1+1+1+1+1+1+1+1+1:=by omega
@[simp, go_sem] theorem akj(n:Nat):n<n+1+1+1+1+1+1+1+1+1+1+1+1+1:=by omega
@[simp, go_sem] theorem akk(n:Nat):n<n+1+1+1+1+1+1+1+1+1+1+1+1+1+1:=by omega
@[simp, go_sem] theorem akl(n:Nat):n<n+1+1+1+1+1+1+1+1+1+1+1+1+1+1+1:=by omega
@[simp, go_sem] theorem akm(n:Nat):n<n+1+1+1+1+1+1+1+1+1+1+1+1+1+1+1+1:=by omega
@[simp, go_sem] theorem akn(n:Nat):n<n+1+1+1+1+1+1+1+1+1+1+1+1+1+1+1+1+1:=by omega
@[simp, go_sem] theorem ako(n:Nat):n<n+1+1+1+1+1+1+1+1+1+1+1+1+1+1+1+1+1+1:=by omega
@[simp, go_sem] theorem akp(n:Nat):n<n+1+1+1+1+1+1+1+1+1+1+1+1+1+1+1+1+1+1+1:=by omega
@[simp, go_sem] theorem akq(n:Nat):n<n+1+1+1+1+1+1+1+1+1+1+1+1+1+1+1+1+1+1+1+1:=by omega
@[simp, go_sem] theorem akr(n:Nat):n<n+1+1+1+1+1+1+1+1+1+1+1+1+1+1+1+1+1+1+1+1+1:=by omega
@[simp, go_sem] theorem aks(n:Nat):n<n+1+1+1+1+1+1+1+1+1+1+1+1+1+1+1+1+1+1+1+1+1+1:=by omega
@[simp, go_sem] theorem akt(n:Nat):n<n+1+1+1+1+1+1+1+1+1+1+1+1+1+1+1+1+1+1+1+1+1+1+1:=by omega
@[simp, go_sem] theorem aku(n:Nat):n<n+1+1+1+1+1+1+1+1+1+1+1+1+1+1+1+1+1+1+1+1+1+1+1+1:=by omega
@[simp, go_sem] theorem akv(n:Nat):n<=n+1+1+1+1+1+1+1+1+1+1+1+1+1+1+1+1+1+1+1+1+1+1+1+1:=by omega
theorem aJ{W w1:World}(hb:Below W.heap.size W w1){p:Addr}{v:Value}(h:W.cell? p=some v):w1.cell? p=some v:=by
 have hlt:p.block<W.heap.size:=by
  rcases Nat.lt_or_ge p.block W.heap.size with h1|h1
  ·exact h1
  ·simp[World.cell?,Array.getElem?_eq_none h1]at h
 rw[hb.cell hlt];exact h
theorem Fa{W w1:World}(hb:Below W.heap.size W w1):(∀b o,b<W.heap.size->w1.cell? ⟨b,o,none⟩=W.cell? ⟨b,o,none⟩)/\(∀b o,b<W.heap.size->w1.frozen? ⟨b,o,none⟩=W.frozen? ⟨b,o,none⟩):=
 ⟨λb o h=>hb.cell (p:=⟨b,o,none⟩) h,λb o h=>hb.frozen (p:=⟨b,o,none⟩) h⟩
theorem adT{a b:Bool}{Q:Prop}(h:a=b)(hq:Q):Ending.returned (.bool a)=.returned (.bool b)/\Q:=by subst h;exact⟨rfl,hq⟩
theorem SG{k:IntKind}{a b:Int}{Q:Prop}(h:a=b)(hq:Q):Ending.returned (.int k a)=.returned (.int k b)/\Q:=by subst h;exact⟨rfl,hq⟩
theorem zG{k k':IntKind}{a b c d:Int}{Q:Prop}(h:a=b)(h':c=d)(hq:Q):Ending.returned (.tuple #[.int k a,.int k' c])=.returned (.tuple #[.int k b,.int k' d])/\Q:=by subst h;subst h';exact⟨rfl,hq⟩
theorem jU{a w:World}(h:Below a.heap.size a w)(o:Obj):Below a.heap.size a (w.alloc o):=h.alloc h.size o
theorem GN{a w:World}(h:Below a.heap.size a w):Below a.heap.size a w.drew:=h.drew
theorem aP{a W w:World}(h:Below a.heap.size a W)(k:Below W.heap.size W w):Below a.heap.size a w:=h.trans (k.mono h.size)
theorem CQ{a w:World}(h:Below a.heap.size a w){p:Addr}(hp:a.heap.size<=p.block)(u:Value):Below a.heap.size a (w.setCell p u):=h.setCell hp u
def aW(w:World)(n:Nat)(cs:Array Value)(T:TypeId):Prop:=w.heap[n]? =some (.cells cs T (0,0))
theorem aW.lt{w:World}{n:Nat}{cs:Array Value}{T:TypeId}(h:aW w n cs T):n<w.heap.size:=by
 unfold aW at h
 rcases Nat.lt_or_ge n w.heap.size with h1|h1
 ·exact h1
 ·rw[Array.getElem?_eq_none h1]at h;cases h
theorem aW.get{w:World}{n:Nat}{cs:Array Value}{T:TypeId}(h:aW w n cs T):n<w.heap.size/\(∀i,w.cell? ⟨n,i,none⟩=cs[i]?)/\∀i,w.frozen? ⟨n,i,none⟩=false:=by
 refine⟨h.lt,λi=> ?_,λi=> ?_⟩
 ·unfold aW at h;simp[World.cell?,h]
 ·unfold aW at h;simp[World.frozen?,h]
theorem aW.new(w:World)(cs:Array Value)(T:TypeId):aW (w.alloc (.cells cs T)) w.heap.size cs T:=by
 unfold aW;show(w.heap.push _)[w.heap.size]? =_;simp
theorem aW.mk{w:World}{n:Nat}{cs:Array Value}{T:TypeId}(h:n=w.heap.size):aW (w.alloc (.cells cs T)) n cs T:=by subst h;exact aW.new w cs T
theorem aW.tr{W w:World}{n:Nat}{cs:Array Value}{T:TypeId}(h:aW W n cs T)(hb:Below W.heap.size W w):aW w n cs T:=(hb.block n h.lt).trans h
theorem aW.alloc{w:World}{n:Nat}{cs:Array Value}{T:TypeId}(h:aW w n cs T)(o:Obj):aW (w.alloc o) n cs T:=(Below.heap_alloc w o n h.lt).trans h
theorem aW.drew{w:World}{n:Nat}{cs:Array Value}{T:TypeId}(h:aW w n cs T):aW w.drew n cs T:=h
theorem aW.other{w:World}{n:Nat}{cs:Array Value}{T:TypeId}(h:aW w n cs T){p:Addr}(hp:n≠p.block)(v:Value):aW (w.setCell p v) n cs T:=(Below.heap_setCell w p v n hp).trans h
theorem aW.set{w:World}{n:Nat}{cs:Array Value}{T:TypeId}(h:aW w n cs T)(i:Nat)(v:Value):aW (w.setCell ⟨n,i,none⟩ v) n (cs.setIfInBounds i v) T:=by
 unfold aW at h⊢
 simp only[World.setCell,Array.getElem?_modify,if_pos,h]
 simp
theorem aW.raw{w:World}{n:Nat}{cs:Array Value}{T:TypeId}(h:aW w n cs T):w.heap[n]? =some (.cells cs T (0,0)):=h
theorem aW.of{w:World}{n:Nat}{cs:Array Value}{T:TypeId}(h:w.heap[n]? =some (.cells cs T (0,0))):aW w n cs T:=h
theorem bk{w:World}{n:Nat}{cs:Array Value}{T:TypeId}(h:aW w n cs T:=by(repeat(first|with_reducible assumption|exact aW.mk rfl|exact aW.mk (by simp)|refine aW.drew ?_|refine aW.alloc ?_ _|refine aW.tr ?_ (by with_reducible assumption)))):aW w n cs T:=h
theorem bm{n:Nat}{a w:World}(h:Below n a w:=by(repeat(first|with_reducible exact Below.refl _ _|with_reducible refine jU ?_ _|with_reducible refine GN ?_|with_reducible refine below_drewN ?_ _|with_reducible refine CQ ?_ (by first|omega|(simp;done)|(simp;omega)) _|with_reducible refine aP ?_ (by with_reducible assumption)))):Below n a w:=h
attribute [irreducible] aW
theorem aaB{n:Int}(h:(Lit.int .i64 n).wf=true): -9223372036854775808<=n/\n<9223372036854775808:=by
 simp[Lit.wf,IntKind.min,IntKind.max,IntKind.signed,IntKind.bits]at h;omega
theorem Qj{n:Int}(h:(Lit.int .u64 n).wf=true):0<=n/\n<18446744073709551616:=by
 simp[Lit.wf,IntKind.min,IntKind.max,IntKind.signed,IntKind.bits]at h;omega
structure Only(n:Nat)(w w':World):Prop where
 os:w'.os=w.os
 tape:w'.tape=w.tape
 output:w'.output=w.output
 size:w.heap.size<=w'.heap.size
 block:∀k,k<w.heap.size->k≠n->w'.heap[k]? =w.heap[k]?
theorem Only.refl(n:Nat)(w:World):Only n w w:=⟨rfl,rfl,rfl,Nat.le_refl _,λ_ _ _=>rfl⟩
theorem Only.trans{n:Nat}{a b c:World}(h:Only n a b)(k:Only n b c):Only n a c:=
 ⟨k.os.trans h.os,k.tape.trans h.tape,k.output.trans h.output,Nat.le_trans h.size k.size,λi hi hn=>(k.block i (Nat.lt_of_lt_of_le hi h.size) hn).trans (h.block i hi hn)⟩
theorem Only.drew{n:Nat}{a w:World}(h:Only n a w):Only n a w.drew:=⟨h.os,h.tape,h.output,h.size,h.block⟩
theorem Only.alloc{n:Nat}{a w:World}(h:Only n a w)(o:Obj):Only n a (w.alloc o):=
 h.trans ⟨rfl,rfl,rfl,by simp,λk hk _=>Below.heap_alloc _ _ _ hk⟩
theorem Only.set{n:Nat}{a w:World}(h:Only n a w)(i:Nat)(u:Value):Only n a (w.setCell ⟨n,i,none⟩ u):=
 h.trans ⟨rfl,rfl,rfl,by simp[World.setCell],λk _ hn=>Below.heap_setCell _ _ _ _ hn⟩
theorem Only.below{n:Nat}{a W w:World}(hb:Below a.heap.size a W)(h:Only n W w)(hn:a.heap.size<=n):Below a.heap.size a w:=
 hb.trans ⟨h.os,h.tape,h.output,h.size,λk hk=>h.block k (Nat.lt_of_lt_of_le hk hb.size) (by omega)⟩
theorem nR{cs:Array Value}{i j:Nat}{v:Value}(h:i≠j):(cs.setIfInBounds i v)[j]? =cs[j]? :=by simp[h]
theorem CS{cs:Array Value}{i:Nat}{v:Value}(h:i<cs.size):(cs.setIfInBounds i v)[i]? =some v:=by simp[h]
theorem adU(n:Int)(h:0<=n/\n<4294967296):IntKind.u32.wrap n=n:=by
 simp only[IntKind.wrap,IntKind.signed,IntKind.bits];simp;omega
theorem mZ(n:Int)(h:0<=n/\n<18446744073709551616):IntKind.u64.wrap n=n:=by
 simp only[IntKind.wrap,IntKind.signed,IntKind.bits];simp;omega
theorem Qk(n:Int)(h:0<=n/\n<256):IntKind.u8.wrap n=n:=by
 simp only[IntKind.wrap,IntKind.signed,IntKind.bits];simp;omega
theorem kL(n:Int)(h: -9223372036854775808<=n/\n<9223372036854775808):IntKind.i64.wrap n=n:=by
 simp only[IntKind.wrap,IntKind.signed,IntKind.bits];simp;omega
end Go.Proofs.YtlncengggmgdgaaGreat
