/- The mutex of the lone program: its contracts. No conditions. -/
import Derived.Test.YtlncengggmgdgaaGreatG17
import Derived.Test.YtlncengggmgdgaaGreatBase
import Derived.RegionCalls
import Derived.Deep.RegionHeld3
import Derived.KernelRfl
set_option linter.unusedVariables false
set_option linter.unusedSimpArgs false
set_option maxRecDepth 100000
namespace Go.Proofs.YtlncengggmgdgaaGreat.par
open Go Go.RowKit
variable {HC : Code}
attribute [local irreducible] par.ah
theorem WW:(ah HC).funcs[201]? =some {Tryz.f201 with body:=some (fA 0 1)}:=by
 rw[fM]
 exact yD HC
theorem NT:(ah HC).funcs[202]? =some {Tryz.f202 with body:=some (fA 1 0)}:=by
 rw[fM]
 exact rJ HC
theorem NU(a:Addr)(w:World){v:Value}(hc:w.cell? a=some v):
  Sem.run (ah HC) (binOp .eql 274 (.pointer (some a)) (.pointer (some ⟨w.heap.size,0,none⟩))) (w.alloc dG)=.ok (.bool false) (w.alloc dG):=by
 obtain⟨c,e,f,ho,hs⟩:∃c e f,w.heap[a.block]? =some (.cells c e f)/\c.size≠0:=by
  unfold World.cell? at hc
  cases ho:w.heap[a.block]? with
  |none=>rw[ho]at hc;simp at hc
  |some o=>
   rw[ho]at hc
   cases o<;>first|(simp at hc;done)|skip
   rename_i c e f
   refine⟨c,e,f,rfl,λh0=> ?_⟩
   dsimp only at hc
   split at hc
   ·cases hc
   ·have:=(Array.getElem?_eq_some_iff.1 hc).1
    omega
 have hlt:a.block<w.heap.size:=(Array.getElem?_eq_some_iff.1 ho).1
 have hold:(w.alloc dG).heap[a.block]? =some (.cells c e f):=by
  show(w.heap.push _)[a.block]? =_
  rw[Array.getElem?_push,if_neg (by omega)]
  exact ho
 have hnew:(w.alloc dG).heap[w.heap.size]? =some dG:=by
  show(w.heap.push _)[w.heap.size]? =_
  rw[Array.getElem?_push,if_pos rfl]
 have h1:=rF (P:=ah HC) (ad:=a) (q:=⟨w.heap.size,0,none⟩) hnew (by dsimp only;omega) hold hs
 have h6:(Op.equalIn 10000 274 (.pointer (some a)) (.pointer (some ⟨w.heap.size,0,none⟩))).run (ah HC) (w.alloc dG)=.ok false (w.alloc dG):=((uM 9999 _ _ _).1).trans h1.1
 simp[go_sem,binOp,Op.equal,Op.maxDepth]
 rw[h6]
 rfl
theorem aaC(n o:Nat)(w:World)(hc:w.cell? ⟨n,o,none⟩=some (.int .i32 0))(hz:w.frozen? ⟨n,o,none⟩=false):
  Calls (par.ah HC) 201 #[.pointer (some ⟨n,o,none⟩)] w λe w'=>e=.returned (.tuple #[])/\w'=(w.setCell ⟨n,o,none⟩ (.int .i32 1)).alloc dG:=by
 have hb:=NU (HC:=HC) _ w hc
 have hn:n<w.heap.size:=par.block_lt hc
 go_enter (WW (HC:=HC)),Tryz.ntmps201
 simp only[fA,ru,xZ,zi,Jc,EC,dK]
 go_wp2
 exact bodyPost_ret (results_none rfl _ _ _) rfl ⟨rfl,rfl⟩
theorem SH(n o:Nat)(w:World)(hc:w.cell? ⟨n,o,none⟩=some (.int .i32 1))(hz:w.frozen? ⟨n,o,none⟩=false):
  Calls (par.ah HC) 202 #[.pointer (some ⟨n,o,none⟩)] w λe w'=>e=.returned (.tuple #[])/\w'=(w.setCell ⟨n,o,none⟩ (.int .i32 0)).alloc dG:=by
 have hb:=NU (HC:=HC) _ w hc
 have hn:n<w.heap.size:=par.block_lt hc
 go_enter (NT (HC:=HC)),Tryz.ntmps202
 simp only[fA,ru,xZ,zi,Jc,EC,dK]
 go_wp2
 exact bodyPost_ret (results_none rfl _ _ _) rfl ⟨rfl,rfl⟩
end Go.Proofs.YtlncengggmgdgaaGreat.par
namespace Go.Proofs.YtlncengggmgdgaaGreat.cm
variable {HC : Code}
attribute [local irreducible] par.ah
def poly:Nat:=3988292384
def top32:Nat:=4294967295
def gX(c:Nat):Nat:=if c%2=1 then(c/2)^^^poly else c/2
def iter(f:Nat->Nat):Nat->Nat->Nat
 |0,c=>c
 |k+1,c=>iter f k (f c)
def ng(c:Nat):Nat:=iter gX 8 c
def YK(c b:Nat):Nat:=ng (c^^^b)
def jV(c:Nat)(l:List Nat):Nat:=l.foldl YK c
def Fb(c:Nat)(l:List Nat):Nat:=jV (c^^^top32) l^^^top32
def ni(l:List Nat):Nat:=Fb 0 l
attribute [irreducible] poly top32
theorem WX(f:Nat->Nat)(a b c:Nat):iter f (a+b) c=iter f b (iter f a c):=by
 induction a generalizing c with
 |zero=>simp[iter]
 |succ a ih=>rw[Nat.succ_add];simp[iter,ih]
theorem CU(f:Nat->Nat)(k c:Nat):iter f (k+1) c=f (iter f k c):=by
 rw[WX];rfl
theorem WY(a b c d:Nat):(a^^^b)^^^(c^^^d)=(a^^^c)^^^(b^^^d):=by
 rw[Nat.xor_assoc,Nat.xor_assoc,<-Nat.xor_assoc b,<-Nat.xor_assoc c,Nat.xor_comm b c]
theorem SI(a b:Nat):gX (a^^^b)=gX a^^^gX b:=by
 have h2:= @Nat.xor_mod_two_eq_one a b
 have h3:(a^^^b)/2=a/2^^^b/2:=Nat.xor_div_two
 unfold gX
 by_cases ha:a%2=1<;>by_cases hb:b%2=1
 ·rw[if_neg (by rw[h2];simp[ha,hb]),if_pos ha,if_pos hb,h3,WY,Nat.xor_self];simp
 ·rw[if_pos (by rw[h2];simp[ha,hb]),if_pos ha,if_neg hb,h3,Nat.xor_assoc,Nat.xor_comm (b/2),<-Nat.xor_assoc]
 ·rw[if_pos (by rw[h2];simp[ha,hb]),if_neg ha,if_pos hb,h3,Nat.xor_assoc]
 ·rw[if_neg (by rw[h2];simp[ha,hb]),if_neg ha,if_neg hb,h3]
theorem SK(x:Nat):gX (2*x)=x:=by
 unfold gX;rw[if_neg (by omega)];omega
theorem WZ{c:Nat}(h:c<4294967296):gX c<4294967296:=by
 unfold gX poly
 split
 ·exact Nat.xor_lt_two_pow (n:=32) (by omega) (by omega)
 ·omega
theorem JU(k a b:Nat):iter gX k (a^^^b)=iter gX k a^^^iter gX k b:=by
 induction k generalizing a b with
 |zero=>rfl
 |succ k ih=>simp[iter,SI,ih]
theorem GU(k:Nat){c:Nat}(h:c<4294967296):iter gX k c<4294967296:=by
 induction k generalizing c with
 |zero=>exact h
 |succ k ih=>exact ih (WZ h)
theorem JV(k x:Nat):iter gX k (2^k*x)=x:=by
 induction k generalizing x with
 |zero=>simp[iter]
 |succ k ih=>
  rw[show 2^(k+1)*x=2*(2^k*x)from by rw[Nat.pow_succ];rw[Nat.mul_comm (2^k) 2,Nat.mul_assoc]]
  simp[iter,SK,ih]
theorem SL(a b:Nat):ng (a^^^b)=ng a^^^ng b:=JU 8 a b
theorem JW{c:Nat}(h:c<4294967296):ng c<4294967296:=GU 8 h
theorem SN(x:Nat):ng (256*x)=x:=JV 8 x
theorem JX(c k:Nat):c=(c%2^k)^^^(2^k*(c/2^k)):=by
 apply Nat.eq_of_testBit_eq
 intro i
 rw[Nat.testBit_xor,Nat.testBit_mod_two_pow,Nat.mul_comm,Nat.testBit_mul_two_pow,Nat.testBit_div_two_pow]
 by_cases h:i<k
 ·simp[h,Nat.not_le.2 h]
 ·have:i-k+k=i:=by omega
  simp[h,this];omega
theorem NV(c:Nat):c=(c%256)^^^(256*(c/256)):=JX c 8
theorem Xa(c b:Nat):ng ((c%256)^^^b)^^^(c/256)=YK c b:=by
 have h:c^^^b=((c%256)^^^b)^^^(256*(c/256)):=by
  conv=>lhs;rw[NV c]
  rw[Nat.xor_assoc,Nat.xor_comm (256*(c/256)) b,<-Nat.xor_assoc]
 unfold YK
 rw[h,SL (c%256^^^b),SN]
theorem JY{a b:Nat}(ha:a<256)(hb:b<256):a^^^b<256:=Nat.xor_lt_two_pow (n:=8) ha hb
theorem ny{a b:Nat}(ha:a<4294967296)(hb:b<4294967296):a^^^b<4294967296:=Nat.xor_lt_two_pow (n:=32) ha hb
theorem adW{c b:Nat}(hc:c<4294967296)(hb:b<256):YK c b<4294967296:=JW (ny hc (by omega))
theorem rO(l:List Nat){c:Nat}(hc:c<4294967296)(hl:∀b∈l,b<256):jV c l<4294967296:=by
 induction l generalizing c with
 |nil=>exact hc
 |cons b l ih=>exact ih (adW hc (hl b (by simp))) (λx hx=>hl x (by simp[hx]))
theorem CV(l:List Nat){c:Nat}(hc:c<4294967296)(hl:∀b∈l,b<256):Fb c l<4294967296:=
 ny (rO l (ny hc (by unfold top32;omega)) hl) (by unfold top32;omega)
theorem CW(c:Nat)(a:List Nat)(x:Nat):jV c (a++[x])=YK (jV c a) x:=by simp[jV,List.foldl_append]
def le4(c:Nat):List Nat:=[c%256,c/256%256,c/65536%256,c/16777216%256]
attribute [irreducible] gX
end Go.Proofs.YtlncengggmgdgaaGreat.cm
