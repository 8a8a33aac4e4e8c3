/- hold's lone body: what a lone run that goes through it tells. No conditions. -/
import Derived.Test.YtlncengggmgdgaaGreatG17
import Derived.Test.YtlncengggmgdgaaGreatG09
import Derived.Test.YtlncengggmgdgaaGreatG16
set_option linter.unusedVariables false
set_option linter.unusedSimpArgs false
set_option maxRecDepth 100000
namespace Go.Proofs.YtlncengggmgdgaaGreat.par
open Go Go.Conc
def hA:Array Oper:= #[dK (some 8) (.move (.const (.int .i64 0))) 3,dK (some 4) (.assign (.const (.bool true))) 4,JQ (some 7) (.tmp 0) 9,dK (some 9) (.binOp .leq 3 (.tmp 7) (.const (.int .i64 999999999999)) 3) 4,JQ (some 10) (.tmp 1) 176,dK (some 11) (.binOp .leq 3 (.tmp 10) (.const (.int .i64 999999999999)) 3) 4]
def hB:Array Oper:= #[dK (some 9) (.binOp .lss 3 (.tmp 8) (.tmp 10) 3) 4]
def hC:Array Oper:= #[WU (some 2) (.tmp 1),dK (some 3) (.binOp .leq 3 (.const (.int .i64 1)) (.tmp 2) 3) 4]
def hD:Array Oper:= #[NS (some 5) (.tmp 1),dK (some 6) (.binOp .eql 274 (.tmp 5) (.const (.pointer none)) 274) 4]
def hE:Array Oper:= #[dK (some 11) (.indexAddr 176 (.tmp 1) (.tmp 8)) 0,dK (some 9) (.load 3 (.tmp 11)) 3,dK (some 5) (.alloc 257) 0,dK (some 6) (.binOp .eql 274 (.tmp 11) (.tmp 5) 274) 4,dK (some 12) (.load 178 (.tmp 11)) 178,
 dK (some 13) (.field 178 (.tmp 12) 0) 3,dK (some 2) (.field 178 (.tmp 12) 1) 3,dK (some 14) (.field 178 (.tmp 12) 2) 3,
 dK (some 15) (.binOp .leq 3 (.const (.int .i64 0)) (.tmp 13) 3) 4,dK (some 3) (.binOp .leq 3 (.const (.int .i64 0)) (.tmp 2) 3) 4]
def hF:Array Oper:= #[dK (some 16) (.binOp .leq 3 (.tmp 13) (.tmp 14) 3) 4,dK (some 9) (.binOp .leq 3 (.tmp 14) (.tmp 7) 3) 4]
def hG:Array Oper:= #[dK (some 15) (.binOp .add 3 (.tmp 14) (.const (.int .i64 4)) 3) 3,dK (some 16) (.binOp .leq 3 (.tmp 15) (.tmp 7) 3) 4]
def hH:Array Oper:= #[dK (some 13) (.call {callee:=.value (.func 138),args:= #[.tmp 12,.tmp 0],argTypes:= #[178,9]}) 4]
def hI:Array Oper:= #[dK (some 4) (.assign (.const (.bool false))) 4]
def hJ:Array Oper:= #[dK (some 14) (.binOp .add 3 (.tmp 8) (.const (.int .i64 1)) 3) 3,dK (some 8) (.move (.tmp 14)) 3]
def must(t:Tmp)(c:Code):Code:=.seq (.cond (.tmp t) .skip (.refuse "pruned")) c
def cJ:Code:=.region 9 hJ false
def cI:Code:=.seq (.cond (.tmp 13) .skip (.region 8 hI false)) cJ
def cH:Code:=.seq (.region 7 hH false) cI
def cG:Code:=.seq (.region 6 hG false) (must 16 cH)
def cF:Code:=.seq (.region 5 hF false) (must 16 (must 9 cG))
def cE:Code:=.seq (.region 4 hE false) (must 15 (must 3 cF))
def cD:Code:=.seq (.region 3 hD false) (.seq (.cond (.tmp 6) (.refuse "pruned") .skip) cE)
def cC:Code:=.seq (.region 2 hC false) (must 3 cD)
def cB:Code:=.seq (.region 1 hB false) (.seq (.cond (.tmp 9) .skip (.exit 0)) cC)
def cL:Code:=.seq (.block 0 (.loop cB)) .ret
def Hm:Code:=.seq (.region 0 hA false) (must 9 (must 11 cL))
theorem abW:pr (Tryz.prog).toTables (yg Hm) false Hm=Hm:=by kernel_rfl
def TL(x0 x1 y2 y3 y4 y5 y6 y7 y8 y9 y10 Ar vC y13 uh tK qM:Value):Act:=⟨#[x0,x1,y2,y3,y4,y5,y6,y7,y8,y9,y10,Ar,vC,y13,uh,tK,qM],[]⟩
section
variable {tl : List Frame} {R : FuncId → Value → World → Prop} {b : Frame} {cs : List Frame} {u : World} {s0 : LS} {k : List Item}
theorem jO{t:Tmp}{c:Code}{a:Act}{x:Bool}(hx:a.eval (.tmp t)=.bool x)(h:bf (ah Hm) tl R s0 (b.at a (.code (must t c)::k)) cs u):x=true/\bf (ah Hm) tl R s0 (b.at a (.code c::k)) cs u:=by
 have h1:=oI hx (eY h)
 cases x with
 |true=>exact⟨rfl,oH h1⟩
 |false=>exact(nN h1).elim
theorem N8{id:Nat}{c:Code}{a:Act}(h:bf (ah Hm) tl R s0 (b.at a (.code (.block id c)::k)) cs u):bf (ah Hm) tl R s0 (b.at a (.code c:: .inBlock id::k)) cs u:=h.go rfl (Nat.le_refl _) λ_=>stepG_block
theorem SV{c:Code}{a:Act}(h:bf (ah Hm) tl R s0 (b.at a (.code (.loop c)::k)) cs u):bf (ah Hm) tl R s0 (b.at a (.code c:: .inLoop c::k)) cs u:=h.go rfl (Nat.le_refl _) λ_=>stepG_loop
theorem J5{c:Code}{a:Act}(h:bf (ah Hm) tl R s0 (b.at a (.inLoop c::k)) cs u):bf (ah Hm) tl R s0 (b.at a (.code c:: .inLoop c::k)) cs u:=h.go rfl (Nat.le_refl _) λ_=>stepG_inLoop
theorem SX{id:Nat}{a:Act}{k':List Item}(he:exitTo id k=some k')(h:bf (ah Hm) tl R s0 (b.at a (.code (.exit id)::k)) cs u):bf (ah Hm) tl R s0 (b.at a k') cs u:=h.go rfl (Nat.le_refl _) λ_=>stepG_exit he
theorem SY(hk:b.kind≠ .early){x0 x1 y2 y3 y4 y5 y6 y7 y8 y9 y10 Ar vC y13 uh tK qM:Value}(h:bf (ah Hm) tl R s0 (b.at (TL x0 x1 y2 y3 y4 y5 y6 y7 y8 y9 y10 Ar vC y13 uh tK qM) [.code Hm]) cs u):
  ∃(s:ByteArray)(ad:Option Addr)(n c:Nat),x0=.string s/\x1=.slice ad n c/\s.size<1000000000000/\n<1000000000000/\
   ∃z9 z11,bf (ah Hm) tl R s0 (b.at (TL x0 x1 y2 y3 (.bool true) y5 y6 (.int .i64 (s.size:Nat)) (.int .i64 (0:Nat)) z9 (.int .i64 (n:Nat)) z11 vC y13 uh tK qM) [.code cB,.inLoop cB,.inBlock 0,.code .ret]) cs u:=by
 have h0:=dR (eY h)
 obtain⟨v,u2,⟨rfl,rfl⟩,h0⟩:=bJ (P:=ah Hm) rfl rfl hk (WV (.const (.int .i64 0)) rfl 3) h0
 change bf (ah Hm) tl R s0 (b.at (TL x0 x1 y2 y3 y4 y5 y6 y7 (.int .i64 0) y9 y10 Ar vC y13 uh tK qM) _) cs _ at h0
 obtain⟨v,u2,⟨rfl,rfl⟩,h0⟩:=bJ (P:=ah Hm) rfl rfl hk (JR (.const (.bool true)) rfl 4) h0
 change bf (ah Hm) tl R s0 (b.at (TL x0 x1 y2 y3 (.bool true) y5 y6 y7 (.int .i64 0) y9 y10 Ar vC y13 uh tK qM) _) cs _ at h0
 obtain⟨v,u2,⟨rfl,s,e0,rfl⟩,h0⟩:=bJ (P:=ah Hm) rfl rfl hk (adR (.tmp 0)) h0
 change bf (ah Hm) tl R s0 (b.at (TL x0 x1 y2 y3 (.bool true) y5 y6 (.int .i64 (s.size:Nat)) (.int .i64 0) y9 y10 Ar vC y13 uh tK qM) _) cs _ at h0
 change x0=.string s at e0
 obtain⟨v,u2,⟨rfl,m,e1,rfl⟩,h0⟩:=bJ (P:=ah Hm) rfl rfl hk (zF (.tmp 7) (.const (.int .i64 999999999999)) (m:=(s.size:Nat)) rfl) h0
 change bf (ah Hm) tl R s0 (b.at (TL x0 x1 y2 y3 (.bool true) y5 y6 (.int .i64 (s.size:Nat)) (.int .i64 0) (.bool (decide ((s.size:Int)<=m))) y10 Ar vC y13 uh tK qM) _) cs _ at h0
 cases e1
 obtain⟨v,u2,⟨rfl,ad,n,c,e1,rfl⟩,h0⟩:=bJ (P:=ah Hm) rfl rfl hk (agp (.tmp 1)) h0
 change bf (ah Hm) tl R s0 (b.at (TL x0 x1 y2 y3 (.bool true) y5 y6 (.int .i64 (s.size:Nat)) (.int .i64 0) (.bool (decide ((s.size:Int)<=999999999999))) (.int .i64 (n:Nat)) Ar vC y13 uh tK qM) _) cs _ at h0
 change x1=.slice ad n c at e1
 obtain⟨v,u2,⟨rfl,m,e2,rfl⟩,h0⟩:=bJ (P:=ah Hm) rfl rfl hk (zF (.tmp 10) (.const (.int .i64 999999999999)) (m:=(n:Nat)) rfl) h0
 change bf (ah Hm) tl R s0 (b.at (TL x0 x1 y2 y3 (.bool true) y5 y6 (.int .i64 (s.size:Nat)) (.int .i64 0) (.bool (decide ((s.size:Int)<=999999999999))) (.int .i64 (n:Nat)) (.bool (decide ((n:Int)<=m))) vC y13 uh tK qM) _) cs _ at h0
 cases e2
 obtain⟨t1,h1⟩:=jO rfl (dS h0)
 obtain⟨t2,h2⟩:=jO rfl h1
 have t1:=of_decide_eq_true t1
 have t2:=of_decide_eq_true t2
 exact⟨s,ad,n,c,e0,e1,by omega,by omega,_,_,SV (N8 (eY h2))⟩
structure CX(u:World)(s:ByteArray)(p:Addr)(i:Nat)(c:Int×Int×Int):Prop where
 spot:i=0->p.spot=none
 at0:u.cell? ⟨p.block,p.off+i*3,none⟩=some (.int .i64 c.1)
 at1:u.cell? ⟨p.block,p.off+i*3+1,none⟩=some (.int .i64 c.2.1)
 at2:u.cell? ⟨p.block,p.off+i*3+2,none⟩=some (.int .i64 c.2.2)
 le0:0<=c.1
 le1:0<=c.2.1
 le2:c.1<=c.2.2
 le3:c.2.2+4<=(s.size:Int)
def tN(s:ByteArray)(gb:Int×Int×Int->Bool):Prop:=∀(c:Int×Int×Int)(w:World),0<=c.1->0<=c.2.1->c.1<=c.2.2->c.2.2+4<=(s.size:Int)->
 Calls (ah Hm) 138 #[.agg #[.int .i64 c.1,.int .i64 c.2.1,.int .i64 c.2.2],.string s] w (λe w'=>∃v,e=.returned v/\v=.bool (gb c)/\RowKit.Below w.heap.size w w')
theorem GY{u:World}{p:Addr}{v:Value}(h:u.cell? p=some v):p.spot=none:=by
 unfold World.cell? at h
 cases hs:p.spot with
 |none=>rfl
 |some x=>
  rw[hs]at h
  split at h
  ·simp at h
  ·cases h
end
section
variable {R : FuncId → Value → World → Prop} {b : Frame} {cs : List Frame} {u : World} {s0 : LS}
set_option maxHeartbeats 1000000 in
theorem CY(hR:∀g v w,R g v w->∃fn t,(ah Hm).funcs[g]? =some fn/\fn.results= #[.tmp t])(hk:b.kind≠ .early){s:ByteArray}{gb:Int×Int×Int->Bool}(YL:tN s gb)(hs:s.size<1000000000000){x0 x1 y2 y3 y5 y6 y9 Ar vC y13 uh tK qM:Value}{ad:Option Addr}{n c i:Nat}{ok:Bool}(hx0:x0=.string s)(hx1:x1=.slice ad n c)(hn:n<1000000000000)(hi:i<=n)(hr:∀p,ad=some p->zX u p.block)
  (h:bf (ah Hm) [c0 136] R s0 (b.at (TL x0 x1 y2 y3 (.bool ok) y5 y6 (.int .i64 (s.size:Nat)) (.int .i64 (i:Nat)) y9 (.int .i64 (n:Nat)) Ar vC y13 uh tK qM) [.code cB,.inLoop cB,.inBlock 0,.code .ret]) cs u):
  (i=n/\∃y9,bf (ah Hm) [c0 136] R s0 (b.at (TL x0 x1 y2 y3 (.bool ok) y5 y6 (.int .i64 (s.size:Nat)) (.int .i64 (i:Nat)) y9 (.int .i64 (n:Nat)) Ar vC y13 uh tK qM) [.code .ret]) cs u)\/
  ∃p cu u',i<n/\ad=some p/\CX u s p i cu/\RowKit.Below u.heap.size u u'/\∃y2 y3 y5 y6 y9 Ar vC y13 uh tK qM,bf (ah Hm) [c0 136] R s0 (b.at (TL x0 x1 y2 y3 (.bool (ok&&gb cu)) y5 y6 (.int .i64 (s.size:Nat)) (.int .i64 ((i+1:Nat):Int)) y9 (.int .i64 (n:Nat)) Ar vC y13 uh tK qM) [.code cB,.inLoop cB,.inBlock 0,.code .ret]) cs u':=by
 subst hx0
 have h0:=dR (eY h)
 obtain⟨v,u2,⟨rfl,rfl⟩,h0⟩:=bJ (P:=ah Hm) rfl rfl hk (ags (.tmp 8) (.tmp 10) (m:=(i:Nat)) (n:=(n:Nat)) rfl rfl) h0
 change bf (ah Hm) [c0 136] R s0 (b.at (TL (.string s) x1 y2 y3 (.bool ok) y5 y6 (.int .i64 (s.size:Nat)) (.int .i64 (i:Nat)) (.bool (decide ((i:Int)<(n:Int)))) (.int .i64 (n:Nat)) Ar vC y13 uh tK qM) _) cs _ at h0
 have h1:=oI (t:=decide ((i:Int)<(n:Int))) rfl (eY (dS h0))
 by_cases hlt:i<n
 ·right
  have e1:decide ((i:Int)<(n:Int))=true:=decide_eq_true (by omega)
  rw[e1]at h1
  have h2:=dR (eY (oH h1))
  clear h h0 h1
  obtain⟨v,u2,⟨rfl,rfl⟩,h2⟩:=bJ (P:=ah Hm) rfl rfl hk (agq (.tmp 1) (ad:=ad) (n:=n) (c:=c) (by exact hx1)) h2
  change bf (ah Hm) [c0 136] R s0 (b.at (TL (.string s) x1 (.int .i64 (c:Nat)) y3 (.bool ok) y5 y6 (.int .i64 (s.size:Nat)) (.int .i64 (i:Nat)) (.bool true) (.int .i64 (n:Nat)) Ar vC y13 uh tK qM) _) cs _ at h2
  obtain⟨v,u2,⟨rfl,m,e2,rfl⟩,h2⟩:=bJ (P:=ah Hm) rfl rfl hk (zF (.const (.int .i64 1)) (.tmp 2) (m:=1) rfl) h2
  change bf (ah Hm) [c0 136] R s0 (b.at (TL (.string s) x1 (.int .i64 (c:Nat)) (.bool (decide ((1:Int)<=m))) (.bool ok) y5 y6 (.int .i64 (s.size:Nat)) (.int .i64 (i:Nat)) (.bool true) (.int .i64 (n:Nat)) Ar vC y13 uh tK qM) _) cs _ at h2
  cases e2
  obtain⟨t1,h3⟩:=jO (x:=decide ((1:Int)<=(c:Nat))) rfl (dS h2)
  have hc:c≠0:=by have:=of_decide_eq_true t1;omega
  have h2:=dR (eY h3)
  clear h3
  obtain⟨v,u2,⟨rfl,rfl⟩,h2⟩:=bJ (P:=ah Hm) rfl rfl hk (adS (.tmp 1) (ad:=ad) (n:=n) (c:=c) (by exact hx1) hc) h2
  change bf (ah Hm) [c0 136] R s0 (b.at (TL (.string s) x1 (.int .i64 (c:Nat)) (.bool (decide ((1:Int)<=(c:Nat)))) (.bool ok) (.pointer ad) y6 (.int .i64 (s.size:Nat)) (.int .i64 (i:Nat)) (.bool true) (.int .i64 (n:Nat)) Ar vC y13 uh tK qM) _) cs _ at h2
  obtain⟨v,u2,⟨rfl,rfl⟩,h2⟩:=bJ (P:=ah Hm) rfl rfl hk (agr (.tmp 5) (.const (.pointer none)) (ad:=ad) rfl rfl) h2
  change bf (ah Hm) [c0 136] R s0 (b.at (TL (.string s) x1 (.int .i64 (c:Nat)) (.bool (decide ((1:Int)<=(c:Nat)))) (.bool ok) (.pointer ad) (.bool ad.isNone) (.int .i64 (s.size:Nat)) (.int .i64 (i:Nat)) (.bool true) (.int .i64 (n:Nat)) Ar vC y13 uh tK qM) _) cs _ at h2
  have h4:=oI (t:=ad.isNone) rfl (eY (dS h2))
  cases ad with
  |none=>exact(nN h4).elim
  |some p=>
  have h2:=dR (eY (oH h4))
  clear h4
  obtain⟨v,u2,⟨rfl,rfl⟩,h2⟩:=bJ (P:=ah Hm) rfl rfl hk (aax (.tmp 1) (.tmp 8) (p:=p) (n:=n) (c:=c) (i:=i) (by exact hx1) rfl hlt) h2
  change bf (ah Hm) [c0 136] R s0 (b.at (TL (.string s) x1 (.int .i64 (c:Nat)) (.bool (decide ((1:Int)<=(c:Nat)))) (.bool ok) (.pointer (some p)) (.bool false) (.int .i64 (s.size:Nat)) (.int .i64 (i:Nat)) (.bool true) (.int .i64 (n:Nat)) (.pointer (some (p.add (i*3)))) vC y13 uh tK qM) _) cs _ at h2
  have hpb:(p.add (i*3)).block=p.block:=by unfold Addr.add;split<;>rfl
  obtain⟨v,u2,⟨rfl,hv⟩,h2⟩:=bJ (P:=ah Hm) rfl rfl hk (aay (.tmp 11) (p:=p.add (i*3)) rfl (by rw[hpb];exact hr p rfl)) h2
  change bf (ah Hm) [c0 136] R s0 (b.at (TL (.string s) x1 (.int .i64 (c:Nat)) (.bool (decide ((1:Int)<=(c:Nat)))) (.bool ok) (.pointer (some p)) (.bool false) (.int .i64 (s.size:Nat)) (.int .i64 (i:Nat)) v (.int .i64 (n:Nat)) (.pointer (some (p.add (i*3)))) vC y13 uh tK qM) _) cs _ at h2
  generalize v=z9 at h2
  have hpl:p.block<u.heap.size:=by
   rcases hr p rfl with⟨_,_,_,h⟩|⟨_,_,h⟩|⟨_,h,_⟩<;>exact(Array.getElem?_eq_some_iff.1 h).1
  have hold:∀b,b<u.heap.size->(u.alloc dG).heap[b]? =u.heap[b]? :=λb hb=>by
   show(u.heap.push _)[b]? =_
   rw[Array.getElem?_push,if_neg (by omega)]
  have hoc:∀a:Addr,a.block=p.block->(u.alloc dG).cell? a=u.cell? a:=λa ha=>by
   unfold World.cell?
   rw[ha,hold _ hpl]
  have hnew:(u.alloc dG).heap[u.heap.size]? =some dG:=by
   show(u.heap.push _)[u.heap.size]? =_
   rw[Array.getElem?_push,if_pos rfl]
  obtain⟨v,u2,⟨rfl,rfl⟩,h2⟩:=bJ (P:=ah Hm) rfl rfl hk (agt) h2
  change bf (ah Hm) [c0 136] R s0 (b.at (TL (.string s) x1 (.int .i64 (c:Nat)) (.bool (decide ((1:Int)<=(c:Nat)))) (.bool ok) (.pointer (some ⟨u.heap.size,0,none⟩)) (.bool false) (.int .i64 (s.size:Nat)) (.int .i64 (i:Nat)) z9 (.int .i64 (n:Nat)) (.pointer (some (p.add (i*3)))) vC y13 uh tK qM) _) cs _ at h2
  have hl1:(∃w,(u.alloc dG).cell? (p.add (i*3))=some w)\/∃a t,(u.alloc dG).heap[(p.add (i*3)).block]? =some (.view a t):=by
   rw[hoc _ hpb,hpb,hold _ hpl]
   rw[hpb]at hv
   exact hv
  obtain⟨v,u2,⟨rfl,ch,eh,fh,hcl⟩,h2⟩:=bJ (P:=ah Hm) rfl rfl hk (aaz (.tmp 11) (.tmp 5) (p:=p.add (i*3)) (q:=⟨u.heap.size,0,none⟩) rfl rfl hnew (by rw[hpb];show p.block≠u.heap.size;omega) hl1) h2
  change bf (ah Hm) [c0 136] R s0 (b.at (TL (.string s) x1 (.int .i64 (c:Nat)) (.bool (decide ((1:Int)<=(c:Nat)))) (.bool ok) (.pointer (some ⟨u.heap.size,0,none⟩)) v (.int .i64 (s.size:Nat)) (.int .i64 (i:Nat)) z9 (.int .i64 (n:Nat)) (.pointer (some (p.add (i*3)))) vC y13 uh tK qM) _) cs _ at h2
  generalize v=z6 at h2
  obtain⟨v,u2,⟨rfl,v0,v1,v2,q0,q1,q2,rfl⟩,h2⟩:=bJ (P:=ah Hm) rfl rfl hk (aaA (.tmp 11) (p:=p.add (i*3)) rfl hcl) h2
  change bf (ah Hm) [c0 136] R s0 (b.at (TL (.string s) x1 (.int .i64 (c:Nat)) (.bool (decide ((1:Int)<=(c:Nat)))) (.bool ok) (.pointer (some ⟨u.heap.size,0,none⟩)) z6 (.int .i64 (s.size:Nat)) (.int .i64 (i:Nat)) z9 (.int .i64 (n:Nat)) (.pointer (some (p.add (i*3)))) (.agg #[v0,v1,v2]) y13 uh tK qM) _) cs _ at h2
  obtain⟨v,u2,⟨rfl,rfl⟩,h2⟩:=bJ (P:=ah Hm) rfl rfl hk (GL (.tmp 12) (v0:=v0) (v1:=v1) (v2:=v2) rfl 0 (by omega)) h2
  change bf (ah Hm) [c0 136] R s0 (b.at (TL (.string s) x1 (.int .i64 (c:Nat)) (.bool (decide ((1:Int)<=(c:Nat)))) (.bool ok) (.pointer (some ⟨u.heap.size,0,none⟩)) z6 (.int .i64 (s.size:Nat)) (.int .i64 (i:Nat)) z9 (.int .i64 (n:Nat)) (.pointer (some (p.add (i*3)))) (.agg #[v0,v1,v2]) v0 uh tK qM) _) cs _ at h2
  obtain⟨v,u2,⟨rfl,rfl⟩,h2⟩:=bJ (P:=ah Hm) rfl rfl hk (GL (.tmp 12) (v0:=v0) (v1:=v1) (v2:=v2) rfl 1 (by omega)) h2
  change bf (ah Hm) [c0 136] R s0 (b.at (TL (.string s) x1 v1 (.bool (decide ((1:Int)<=(c:Nat)))) (.bool ok) (.pointer (some ⟨u.heap.size,0,none⟩)) z6 (.int .i64 (s.size:Nat)) (.int .i64 (i:Nat)) z9 (.int .i64 (n:Nat)) (.pointer (some (p.add (i*3)))) (.agg #[v0,v1,v2]) v0 uh tK qM) _) cs _ at h2
  obtain⟨v,u2,⟨rfl,rfl⟩,h2⟩:=bJ (P:=ah Hm) rfl rfl hk (GL (.tmp 12) (v0:=v0) (v1:=v1) (v2:=v2) rfl 2 (by omega)) h2
  change bf (ah Hm) [c0 136] R s0 (b.at (TL (.string s) x1 v1 (.bool (decide ((1:Int)<=(c:Nat)))) (.bool ok) (.pointer (some ⟨u.heap.size,0,none⟩)) z6 (.int .i64 (s.size:Nat)) (.int .i64 (i:Nat)) z9 (.int .i64 (n:Nat)) (.pointer (some (p.add (i*3)))) (.agg #[v0,v1,v2]) v0 v2 tK qM) _) cs _ at h2
  obtain⟨v,u2,⟨rfl,m0,e2,rfl⟩,h2⟩:=bJ (P:=ah Hm) rfl rfl hk (zF (.const (.int .i64 0)) (.tmp 13) (m:=0) rfl) h2
  change bf (ah Hm) [c0 136] R s0 (b.at (TL (.string s) x1 v1 (.bool (decide ((1:Int)<=(c:Nat)))) (.bool ok) (.pointer (some ⟨u.heap.size,0,none⟩)) z6 (.int .i64 (s.size:Nat)) (.int .i64 (i:Nat)) z9 (.int .i64 (n:Nat)) (.pointer (some (p.add (i*3)))) (.agg #[v0,v1,v2]) v0 v2 (.bool (decide ((0:Int)<=m0))) qM) _) cs _ at h2
  change v0=.int .i64 m0 at e2
  subst e2
  obtain⟨v,u2,⟨rfl,m1,e2,rfl⟩,h2⟩:=bJ (P:=ah Hm) rfl rfl hk (zF (.const (.int .i64 0)) (.tmp 2) (m:=0) rfl) h2
  change bf (ah Hm) [c0 136] R s0 (b.at (TL (.string s) x1 v1 (.bool (decide ((0:Int)<=m1))) (.bool ok) (.pointer (some ⟨u.heap.size,0,none⟩)) z6 (.int .i64 (s.size:Nat)) (.int .i64 (i:Nat)) z9 (.int .i64 (n:Nat)) (.pointer (some (p.add (i*3)))) (.agg #[.int .i64 m0,v1,v2]) (.int .i64 m0) v2 (.bool (decide ((0:Int)<=m0))) qM) _) cs _ at h2
  change v1=.int .i64 m1 at e2
  subst e2
  obtain⟨t2,h3⟩:=jO (x:=decide ((0:Int)<=m0)) rfl (dS h2)
  obtain⟨t3,h3⟩:=jO (x:=decide ((0:Int)<=m1)) rfl h3
  have h2:=dR (eY h3)
  clear h3
  obtain⟨v,u2,⟨rfl,m2,e2,rfl⟩,h2⟩:=bJ (P:=ah Hm) rfl rfl hk (zF (.tmp 13) (.tmp 14) (m:=m0) rfl) h2
  change bf (ah Hm) [c0 136] R s0 (b.at (TL (.string s) x1 (.int .i64 m1) (.bool (decide ((0:Int)<=m1))) (.bool ok) (.pointer (some ⟨u.heap.size,0,none⟩)) z6 (.int .i64 (s.size:Nat)) (.int .i64 (i:Nat)) z9 (.int .i64 (n:Nat)) (.pointer (some (p.add (i*3)))) (.agg #[.int .i64 m0,.int .i64 m1,v2]) (.int .i64 m0) v2 (.bool (decide ((0:Int)<=m0))) (.bool (decide (m0<=m2)))) _) cs _ at h2
  change v2=.int .i64 m2 at e2
  subst e2
  obtain⟨v,u2,⟨rfl,mm,e2,rfl⟩,h2⟩:=bJ (P:=ah Hm) rfl rfl hk (zF (.tmp 14) (.tmp 7) (m:=m2) rfl) h2
  change bf (ah Hm) [c0 136] R s0 (b.at (TL (.string s) x1 (.int .i64 m1) (.bool (decide ((0:Int)<=m1))) (.bool ok) (.pointer (some ⟨u.heap.size,0,none⟩)) z6 (.int .i64 (s.size:Nat)) (.int .i64 (i:Nat)) (.bool (decide (m2<=mm))) (.int .i64 (n:Nat)) (.pointer (some (p.add (i*3)))) (.agg #[.int .i64 m0,.int .i64 m1,.int .i64 m2]) (.int .i64 m0) (.int .i64 m2) (.bool (decide ((0:Int)<=m0))) (.bool (decide (m0<=m2)))) _) cs _ at h2
  change Value.int .i64 (s.size:Nat)=.int .i64 mm at e2
  cases e2
  obtain⟨t4,h3⟩:=jO (x:=decide (m0<=m2)) rfl (dS h2)
  obtain⟨t5,h3⟩:=jO (x:=decide (m2<=(s.size:Nat))) rfl h3
  have h2:=dR (eY h3)
  clear h3
  have t2:=of_decide_eq_true t2
  have t3:=of_decide_eq_true t3
  have t4:=of_decide_eq_true t4
  have t5:=of_decide_eq_true t5
  obtain⟨v,u2,⟨rfl,rfl⟩,h2⟩:=bJ (P:=ah Hm) rfl rfl hk (abT (.tmp 14) (.const (.int .i64 4)) (m:=m2) (n:=4) rfl rfl) h2
  change bf (ah Hm) [c0 136] R s0 (b.at (TL (.string s) x1 (.int .i64 m1) (.bool (decide ((0:Int)<=m1))) (.bool ok) (.pointer (some ⟨u.heap.size,0,none⟩)) z6 (.int .i64 (s.size:Nat)) (.int .i64 (i:Nat)) (.bool (decide (m2<=(s.size:Nat)))) (.int .i64 (n:Nat)) (.pointer (some (p.add (i*3)))) (.agg #[.int .i64 m0,.int .i64 m1,.int .i64 m2]) (.int .i64 m0) (.int .i64 m2) (.int .i64 (IntKind.i64.wrap (m2+4))) (.bool (decide (m0<=m2)))) _) cs _ at h2
  obtain⟨v,u2,⟨rfl,mm,e2,rfl⟩,h2⟩:=bJ (P:=ah Hm) rfl rfl hk (zF (.tmp 15) (.tmp 7) (m:=IntKind.i64.wrap (m2+4)) rfl) h2
  change bf (ah Hm) [c0 136] R s0 (b.at (TL (.string s) x1 (.int .i64 m1) (.bool (decide ((0:Int)<=m1))) (.bool ok) (.pointer (some ⟨u.heap.size,0,none⟩)) z6 (.int .i64 (s.size:Nat)) (.int .i64 (i:Nat)) (.bool (decide (m2<=(s.size:Nat)))) (.int .i64 (n:Nat)) (.pointer (some (p.add (i*3)))) (.agg #[.int .i64 m0,.int .i64 m1,.int .i64 m2]) (.int .i64 m0) (.int .i64 m2) (.int .i64 (IntKind.i64.wrap (m2+4))) (.bool (decide (IntKind.i64.wrap (m2+4)<=mm)))) _) cs _ at h2
  change Value.int .i64 (s.size:Nat)=.int .i64 mm at e2
  cases e2
  obtain⟨t6,h3⟩:=jO (x:=decide (IntKind.i64.wrap (m2+4)<=(s.size:Nat))) rfl (dS h2)
  have t6:=of_decide_eq_true t6
  rw[IntKind.wrap_i64]at t6
  have t7:m2+4<=(s.size:Int):=by omega
  have h2:=dR (eY h3)
  clear h3
  have h3:=Nh (P:=ah Hm) (o:=dK (some 13) (.call {callee:=.value (.func 138),args:= #[.tmp 12,.tmp 0],argTypes:= #[178,9]}) 4) rfl rfl hk rfl (GI (H:=Hm)) (by kernel_rfl) (by kernel_rfl) (vs:= #[.agg #[.int .i64 m0,.int .i64 m1,.int .i64 m2],.string s]) (by simp[TL,Act.eval]) h2
  obtain⟨v,u3,⟨hv3,hb3⟩,h4⟩:=Nj (P:=ah Hm) (k:=136) (uT Hm) hR (GI (H:=Hm)) Tryz.results138 (YL (m0,m1,m2) (u.alloc dG) t2 t3 t4 t7) h3
  subst hv3
  have ed:(hH[0]?).bind (λo:Oper=>o.dst)=some 13:=rfl
  rw[Frame.finish_at,ed]at h4
  change bf (ah Hm) [c0 136] R s0 (b.at (TL (.string s) x1 (.int .i64 m1) (.bool (decide ((0:Int)<=m1))) (.bool ok) (.pointer (some ⟨u.heap.size,0,none⟩)) z6 (.int .i64 (s.size:Nat)) (.int .i64 (i:Nat)) (.bool (decide (m2<=(s.size:Nat)))) (.int .i64 (n:Nat)) (.pointer (some (p.add (i*3)))) (.agg #[.int .i64 m0,.int .i64 m1,.int .i64 m2]) (.bool (gb (m0,m1,m2))) (.int .i64 m2) (.int .i64 (IntKind.i64.wrap (m2+4))) (.bool (decide (IntKind.i64.wrap (m2+4)<=(s.size:Nat))))) _) cs _ at h4
  have hbel:RowKit.Below u.heap.size u u3:=(RowKit.Below.alloc (RowKit.Below.refl _ _) (Nat.le_refl _) dG).trans (hb3.mono (by simp))
  have hadd:p.add (i*3)=⟨p.block,p.off+i*3,none⟩:=by
   have hsp:=GY q0
   unfold Addr.add at hsp⊢
   by_cases h0:i*3=0
   ·rw[if_pos h0]at hsp⊢
    obtain⟨pb,po,ps⟩:=p
    dsimp only at hsp⊢
    rw[hsp,h0]
    rfl
   ·rw[if_neg h0]
  rw[hadd]at q0 q1 q2
  have hcut:CX u s p i (m0,m1,m2):=⟨λh0=>by
   have:p.add (i*3)=p:=by rw[h0];rfl
   rw[this]at hadd
   rw[hadd],(hoc ⟨p.block,p.off+i*3,none⟩ rfl).symm.trans q0,(hoc ⟨p.block,p.off+i*3+1,none⟩ rfl).symm.trans q1,(hoc ⟨p.block,p.off+i*3+2,none⟩ rfl).symm.trans q2,t2,t3,t4,t7⟩
  have h5:=oI (t:=gb (m0,m1,m2)) rfl (eY (dS h4))
  refine⟨p,(m0,m1,m2),u3,hlt,rfl,hcut,hbel,?_⟩
  have last:∀ok':Bool,bf (ah Hm) [c0 136] R s0 (b.at (TL (.string s) x1 (.int .i64 m1) (.bool (decide ((0:Int)<=m1))) (.bool ok') (.pointer (some ⟨u.heap.size,0,none⟩)) z6 (.int .i64 (s.size:Nat)) (.int .i64 (i:Nat)) (.bool (decide (m2<=(s.size:Nat)))) (.int .i64 (n:Nat)) (.pointer (some (p.add (i*3)))) (.agg #[.int .i64 m0,.int .i64 m1,.int .i64 m2]) (.bool (gb (m0,m1,m2))) (.int .i64 m2) (.int .i64 (IntKind.i64.wrap (m2+4))) (.bool (decide (IntKind.i64.wrap (m2+4)<=(s.size:Nat))))) [.code cJ,.inLoop cB,.inBlock 0,.code .ret]) cs u3->∃y2 y3 y5 y6 y9 Ar vC y13 uh tK qM,bf (ah Hm) [c0 136] R s0 (b.at (TL (.string s) x1 y2 y3 (.bool ok') y5 y6 (.int .i64 (s.size:Nat)) (.int .i64 ((i+1:Nat):Int)) y9 (.int .i64 (n:Nat)) Ar vC y13 uh tK qM) [.code cB,.inLoop cB,.inBlock 0,.code .ret]) cs u3:=by
   intro ok' h6
   have h2:=dR h6
   have e8:IntKind.i64.wrap ((i:Int)+1)=((i+1:Nat):Int):=by rw[IntKind.wrap_i64];omega
   obtain⟨v,u2,⟨rfl,rfl⟩,h2⟩:=bJ (P:=ah Hm) rfl rfl hk (abT (.tmp 8) (.const (.int .i64 1)) (m:=(i:Nat)) (n:=1) rfl rfl) h2
   change bf (ah Hm) [c0 136] R s0 (b.at (TL (.string s) x1 (.int .i64 m1) (.bool (decide ((0:Int)<=m1))) (.bool ok') (.pointer (some ⟨u.heap.size,0,none⟩)) z6 (.int .i64 (s.size:Nat)) (.int .i64 (i:Nat)) (.bool (decide (m2<=(s.size:Nat)))) (.int .i64 (n:Nat)) (.pointer (some (p.add (i*3)))) (.agg #[.int .i64 m0,.int .i64 m1,.int .i64 m2]) (.bool (gb (m0,m1,m2))) (.int .i64 (IntKind.i64.wrap ((i:Nat)+1))) (.int .i64 (IntKind.i64.wrap (m2+4))) (.bool (decide (IntKind.i64.wrap (m2+4)<=(s.size:Nat))))) _) cs _ at h2
   obtain⟨v,u2,⟨rfl,rfl⟩,h2⟩:=bJ (P:=ah Hm) rfl rfl hk (WV (.tmp 14) rfl 3) h2
   change bf (ah Hm) [c0 136] R s0 (b.at (TL (.string s) x1 (.int .i64 m1) (.bool (decide ((0:Int)<=m1))) (.bool ok') (.pointer (some ⟨u.heap.size,0,none⟩)) z6 (.int .i64 (s.size:Nat)) (.int .i64 (IntKind.i64.wrap ((i:Nat)+1))) (.bool (decide (m2<=(s.size:Nat)))) (.int .i64 (n:Nat)) (.pointer (some (p.add (i*3)))) (.agg #[.int .i64 m0,.int .i64 m1,.int .i64 m2]) (.bool (gb (m0,m1,m2))) (.int .i64 (IntKind.i64.wrap ((i:Nat)+1))) (.int .i64 (IntKind.i64.wrap (m2+4))) (.bool (decide (IntKind.i64.wrap (m2+4)<=(s.size:Nat))))) _) cs _ at h2
   rw[e8]at h2
   exact⟨_,_,_,_,_,_,_,_,_,_,_,J5 (dS h2)⟩
  cases hg:gb (m0,m1,m2)with
  |true=>
   rw[hg]at h5
   rw[Bool.and_true]
   rw[hg]at last
   exact last ok (oH h5)
  |false=>
   rw[hg]at h5
   rw[Bool.and_false]
   rw[hg]at last
   have h2:=dR h5
   obtain⟨v,u2,⟨rfl,rfl⟩,h2⟩:=bJ (P:=ah Hm) rfl rfl hk (JR (.const (.bool false)) rfl 4) h2
   change bf (ah Hm) [c0 136] R s0 (b.at (TL (.string s) x1 (.int .i64 m1) (.bool (decide ((0:Int)<=m1))) (.bool false) (.pointer (some ⟨u.heap.size,0,none⟩)) z6 (.int .i64 (s.size:Nat)) (.int .i64 (i:Nat)) (.bool (decide (m2<=(s.size:Nat)))) (.int .i64 (n:Nat)) (.pointer (some (p.add (i*3)))) (.agg #[.int .i64 m0,.int .i64 m1,.int .i64 m2]) (.bool false) (.int .i64 m2) (.int .i64 (IntKind.i64.wrap (m2+4))) (.bool (decide (IntKind.i64.wrap (m2+4)<=(s.size:Nat))))) _) cs _ at h2
   exact last false (dS h2)
 ·left
  have e1:decide ((i:Int)<(n:Int))=false:=decide_eq_false (by omega)
  rw[e1]at h1
  exact⟨by omega,_,SX rfl h1⟩
theorem CX.old{u0 u:World}{s:ByteArray}{p:Addr}{i:Nat}{c:Int×Int×Int}(h:CX u s p i c)(hb:RowKit.Below u0.heap.size u0 u)(hp:p.block<u0.heap.size):CX u0 s p i c:=by
 have e:∀o,u.cell? ⟨p.block,o,none⟩=u0.cell? ⟨p.block,o,none⟩:=λo=>by
  unfold World.cell?
  dsimp only
  rw[hb.block _ hp]
 exact⟨h.spot,(e _).symm.trans h.at0,(e _).symm.trans h.at1,(e _).symm.trans h.at2,h.le0,h.le1,h.le2,h.le3⟩
theorem zX.below{u0 u:World}{r:Nat}(h:zX u0 r)(hb:RowKit.Below u0.heap.size u0 u):zX u r:=by
 have hr:r<u0.heap.size:=by rcases h with⟨_,_,_,h⟩|⟨_,_,h⟩|⟨_,h,_⟩<;>exact(Array.getElem?_eq_some_iff.1 h).1
 unfold zX
 rw[hb.block r hr]
 exact h
theorem Tc(hR:∀g v w,R g v w->∃fn t,(ah Hm).funcs[g]? =some fn/\fn.results= #[.tmp t])(hk:b.kind≠ .early){s:ByteArray}{gb:Int×Int×Int->Bool}(YL:tN s gb)(hs:s.size<1000000000000){ad:Option Addr}{n c:Nat}(hn:n<1000000000000){u0:World}(hr:∀p,ad=some p->zX u0 p.block):
  ∀(m i:Nat)(ok:Bool)(u:World)(y2 y3 y5 y6 y9 Ar vC y13 uh tK qM:Value),n=i+m->RowKit.Below u0.heap.size u0 u->
   bf (ah Hm) [c0 136] R s0 (b.at (TL (.string s) (.slice ad n c) y2 y3 (.bool ok) y5 y6 (.int .i64 (s.size:Nat)) (.int .i64 (i:Nat)) y9 (.int .i64 (n:Nat)) Ar vC y13 uh tK qM) [.code cB,.inLoop cB,.inBlock 0,.code .ret]) cs u->
   ∃(cu:Nat->Int×Int×Int)(ok':Bool)(u':World)(T:Array Value),(∀j,i<=j->j<n->∃p,ad=some p/\CX u0 s p j (cu j))/\(ok'=true↔ok=true/\∀j,i<=j->j<n->gb (cu j)=true)/\RowKit.Below u0.heap.size u0 u'/\T.getD 4 undef=.bool ok'/\
    bf (ah Hm) [c0 136] R s0 (b.at ⟨T,[]⟩ [.code .ret]) cs u':=by
 intro m
 induction m with
 |zero=>
  intro i ok u y2 y3 y5 y6 y9 Ar vC y13 uh tK qM hm hb h
  rcases CY hR hk YL hs rfl rfl hn (by omega) (λp hp=>(hr p hp).below hb) h with⟨_,y9',h2⟩|⟨p,cu,u',hlt,_⟩
  ·exact⟨λ_=>(0,0,0),ok,u,_,λj h1 h2=>by omega,⟨λh=>⟨h,λj h1 h2=>by omega⟩,λh=>h.1⟩,hb,rfl,h2⟩
  ·omega
 |succ m ih=>
  intro i ok u y2 y3 y5 y6 y9 Ar vC y13 uh tK qM hm hb h
  rcases CY hR hk YL hs rfl rfl hn (by omega) (λp hp=>(hr p hp).below hb) h with⟨h1,_⟩|⟨p,cu,u',hlt,hp,hc,hb2,z2,z3,z5,z6,z9,z11,z12,z13,z14,z15,z16,h2⟩
  ·omega
  ·have hbu:RowKit.Below u0.heap.size u0 u':=hb.trans (hb2.mono hb.size)
   obtain⟨cs',ok',u2,T,g1,g2,g3,g4,g5⟩:=ih (i+1) _ u' z2 z3 z5 z6 z9 z11 z12 z13 z14 z15 z16 (by omega) hbu h2
   have hpl:p.block<u0.heap.size:=by rcases hr p hp with⟨_,_,_,h⟩|⟨_,_,h⟩|⟨_,h,_⟩<;>exact(Array.getElem?_eq_some_iff.1 h).1
   refine⟨λj=>if j=i then cu else cs' j,ok',u2,T,λj h1 h2=> ?_,?_,g3,g4,g5⟩
   ·dsimp only
    by_cases hj:j=i
    ·subst hj
     rw[if_pos rfl]
     exact⟨p,hp,hc.old hb hpl⟩
    ·rw[if_neg hj]
     exact g1 j (by omega) h2
   ·rw[g2,Bool.and_eq_true]
    constructor
    ·rintro⟨⟨h1,h2⟩,h3⟩
     refine⟨h1,λj h4 h5=> ?_⟩
     dsimp only
     by_cases hj:j=i
     ·rw[if_pos hj];exact h2
     ·rw[if_neg hj];exact h3 j (by omega) h5
    ·rintro⟨h1,h2⟩
     refine⟨⟨h1,?_⟩,λj h4 h5=> ?_⟩
     ·have:=h2 i (Nat.le_refl _) hlt
      dsimp only at this
      rwa[if_pos rfl]at this
     ·have:=h2 j (by omega) h5
      dsimp only at this
      rwa[if_neg (by omega)]at this
theorem J6{P:Program}{k:FuncId}{c:Frame}{T:Array Value}{todo:List Item}{fn:Func}{t:Tmp}(hk:b.kind=.normal)(hf:P.funcs[b.fn]? =some fn)(hr:fn.results= #[.tmp t])(h:bf P [c0 k] R s0 {b.at ⟨T,[]⟩ todo with mode:=.returning} (c::cs) u):bf P [c0 k] R s0 (c.finish (T.getD t undef)) cs u:=by
 have hn:¬gJ {b.at ⟨T,[]⟩ todo with mode:=.returning} (c::cs):=λx=>by cases x.1
 have hs:∀τ,stepG P true (G {b.at ⟨T,[]⟩ todo with mode:=.returning} ((c::cs)++[c0 k])) (tp u τ)=.go (G (c.finish (T.getD t undef)) (cs++[c0 k])) (tp u τ) #[]:=λτ=>
  stepG_leave hk rfl hf (results_tmp hr _ _ _) (events_results_tmp hr _ _)
 exact⟨h.lt.go hn (Nat.le_refl _) hs,.inr (h.desc.elim (λe=>e▸ .single (lS hn (Nat.le_refl _) hs)) λx=>.trans (.single (lS hn (Nat.le_refl _) hs)) x)⟩
theorem Td(hR:∀g v w,R g v w->∃fn t,(ah Hm).funcs[g]? =some fn/\fn.results= #[.tmp t]){gb:ByteArray->Int×Int×Int->Bool}(YL:∀s:ByteArray,s.size<1000000000000->tN s (gb s)){a:Array Value}(ha:a.size=2){c:Frame}
  (hr:∀p n cc,a.getD 1 undef=.slice (some p) n cc->zX u p.block) (h:bf (ah Hm) [c0 136] R s0 (Frame.enter (ah Hm) 122 a .normal) (c::cs) u):
  ∃(s:ByteArray)(ad:Option Addr)(n cap:Nat)(cu:Nat->Int×Int×Int)(v:Bool)(u':World),a= #[.string s,.slice ad n cap]/\s.size<1000000000000/\n<1000000000000/\(∀i,i<n->∃p,ad=some p/\CX u s p i (cu i))/\(v=true↔∀i,i<n->gb s (cu i)=true)/\RowKit.Below u.heap.size u u'/\
   bf (ah Hm) [c0 136] R s0 (c.finish (.bool v)) cs u':=by
 obtain⟨⟨l⟩,hl⟩:∃a',a=a':=⟨a,rfl⟩
 subst hl
 rcases l with _|⟨x0,_|⟨x1,_|⟨_,_⟩⟩⟩<;>simp at ha
 have hf:(ah Hm).funcs[122]? =some {Tryz.f122 with body:=some Hm}:=by
  rw[fM,yE,abW]
 rw[tq hf rfl]at h
 change bf _ _ _ _ ((bK 122 .normal).at (TL x0 x1 undef undef undef undef undef undef undef undef undef undef undef undef undef undef undef) [.code Hm]) _ _ at h
 have hk:(bK 122 .normal).kind≠ .early:=by simp[bK]
 obtain⟨s,ad,n,cc,rfl,rfl,h1,h2,z9,z11,h3⟩:=SY hk h
 obtain⟨cu,ok',u',T,g1,g2,g3,g4,g5⟩:=Tc hR hk (YL s h1) h1 h2 (u0:=u) (λp hp=>hr p n cc (by subst hp;rfl)) n 0 true u _ _ _ _ _ _ _ _ _ _ _ (by omega) (RowKit.Below.refl _ _) h3
 have h4:=J6 (P:=ah Hm) (b:=bK 122 .normal) rfl hf rfl (Ju g5)
 refine⟨s,ad,n,cc,cu,ok',u',rfl,h1,h2,λi hi=>g1 i (Nat.zero_le _) hi,?_,g3,?_⟩
 ·rw[g2]
  exact⟨λh i hi=>h.2 i (Nat.zero_le _) hi,λh=>⟨rfl,λj _ hj=>h j hj⟩⟩
 ·rw[<-g4]
  exact h4
end
end Go.Proofs.YtlncengggmgdgaaGreat.par
namespace Go.Proofs.YtlncengggmgdgaaGreat.par
open Go Go.Conc
def oN(Post:Value->World->Prop)(m:Machine)(t:Trace):Prop:=∃N last o w' t',runNT Tryz.prog (N+1) m t=(.ended o w',t')/\runN Tryz.prog N m=.next last/\step Tryz.prog last=.ended o w'/\Conc.Good Tryz.prog Post last o w' t'
theorem Fh{Post:Value->World->Prop}(m:Machine)(t:Trace)(m':Machine)(ops:Trace)(h:stepT Tryz.prog m=(.next m',ops))(hk:oN Post m' (t++ops)):oN Post m t:=by
 obtain⟨N,last,o,w',t',h1,h2,h3,h4⟩:=hk
 refine⟨N+1,last,o,w',t',?_,?_,h3,h4⟩
 ·show runNT Tryz.prog (N+1+1) m t=_
  rw[runNT]
  simp only[h]
  exact h1
 ·have hs:step Tryz.prog m=.next m':=by
   unfold step
   rw[h]
  simp only[runN,hs]
  exact h2
section
variable {R : FuncId → Value → World → Prop} {W0 : World} {Dz : Nat → Prop}
def JI(Dz:Nat->Prop)(σ:Nat->Nat)(D:Nat->Prop):Prop:=∀r,Dz r->D r/\σ r=r
theorem JI.up{σ σ1:Nat->Nat}{D D1:Nat->Prop}(hu:Up σ D σ1 D1)(h:JI Dz σ D):JI Dz σ1 D1:=λr hr=>⟨(hu r (h r hr).1).1,by rw[(hu r (h r hr).1).2];exact(h r hr).2⟩
abbrev Xf:List Frame:=[c0 136]
def agv(R:FuncId->Value->World->Prop)(W0:World)(Dz:Nat->Prop)(s0:LS)(O:Nat->Prop)(g:Goroutine)(w:World):Prop:=
 ∃σ D s fr cs,JI Dz σ D/\O=img σ D/\LT (ah Hm) Xf R s.1 s.2.1 s.2.2/\Rel (Tryz.prog).toTables (dP Hm) (Tryz.prog).funcs Sp W0 σ D s fr cs w/\gJ s.1 s.2.1/\g=G fr cs
def Eb(R:FuncId->Value->World->Prop)(W0:World)(Dz:Nat->Prop)(s0:LS)(O:Nat->Prop)(g:Goroutine)(w:World):Prop:=
 ∃σ D s fr cs a a',JI Dz σ D/\O=img σ D/\ae0 (Tryz.prog).toTables (dP Hm) (Tryz.prog).funcs Sp W0 σ D 122 a a' .normal s fr cs w/\Relation.TransGen (mV (ah Hm) Xf) (Frame.enter (ah Hm) 122 a .normal,s.1::s.2.1,s.2.2) s0/\
  LT (ah Hm) Xf R (Frame.enter (ah Hm) 122 a .normal) (s.1::s.2.1) s.2.2/\g=G (Frame.enter Tryz.prog 122 a' .normal) (fr::cs)
def agw(R:FuncId->Value->World->Prop)(W0:World)(Dz:Nat->Prop)(s0:LS)(O:Nat->Prop)(d:Nat)(g:Goroutine)(w:World):Prop:=d=0/\g.status=.running/\(agv R W0 Dz s0 O g w\/Eb R W0 Dz s0 O g w)
theorem Rel.env{σ:Nat->Nat}{D:Nat->Prop}{s:LS}{fr:Frame}{cs:List Frame}{w w₁:World}(h:Rel (Tryz.prog).toTables (dP Hm) (Tryz.prog).funcs Sp W0 σ D s fr cs w)(he:qJ (img σ D) w w₁):Rel (Tryz.prog).toTables (dP Hm) (Tryz.prog).funcs Sp W0 σ D s fr cs w₁:=⟨h.sit.env he.env,h.fr,h.cs,h.bot⟩
theorem Tf{s0:LS}(hlt:LT (ah Hm) Xf R s0.1 s0.2.1 s0.2.2){σ:Nat->Nat}{D:Nat->Prop}{fr:Frame}{cs:List Frame}{w:World}(hj:JI Dz σ D)(hr:Rel (Tryz.prog).toTables (dP Hm) (Tryz.prog).funcs Sp W0 σ D s0 fr cs w):
  OT Tryz.prog true qJ (Gx jk) (agw R W0 Dz s0) (img σ D) 0 (G fr cs) w:=by
 have hE:∀O w w₁,qJ O w w₁->pR O w w₁:=λ_ _ _ h=>h.env
 have hG2:∀(O:Nat->Prop)w w' es,Vx O w w' es->Gx jk O w w' es:=λO w w' es h=>⟨⟨h.tape,h.os,h.output,h.size,h.kept,λe he=>.inl (h.evs e he)⟩,λe he=>⟨λx hx hl=>by obtain⟨b,h,_⟩:=inB.two hl hl;exact h,λa _=>id⟩⟩
 have h:=transfer ⟨BN _,.nil⟩ (λ_ O w w' es es2 h he2 _=>⟨⟨h.tape,h.os,h.output,h.size,h.kept,λe he=>(he2 e he).elim (λk=>.inl (h.evs e k)) λk=>.inr (.inr ⟨rfl,.inr (.inr k)⟩)⟩,λe he=>⟨λx hx hl=>by obtain⟨b,h,_⟩:=inB.two hl hl;exact h,λa _=>id⟩⟩) (JI Dz) (λ_ _ _ _ hu h=>h.up hu) (T:=(Tryz.prog).toTables) (F':=dP Hm) (F:=(Tryz.prog).funcs) (Sp:=Sp) (main:=true) (W0:=W0) (tl:=Xf) (tail:=[]) (R:=R) (Fin:=agw R W0 Dz s0) zp (Jd Hm) hE (dO.refl Lu) (λO w w' es h _=>hG2 O w w' es h) s0 ?_ ?_ s0 (.inl rfl) hlt σ D fr cs w hj hr
 ·rw[List.append_nil]at h
  exact h
 ·intro σ D s fr cs w hj h0 hlt hr hend
  rw[List.append_nil]
  exact .stop λw₁ he=>⟨rfl,rfl,.inl ⟨σ,D,s,fr,cs,hj,rfl,hlt,hr.env he,hend,rfl⟩⟩
 ·intro σ D f a a' kind s fr cs w hj hd hlt hr hnext
  have hsp:=hr.sp
  unfold Sp special at hsp
  simp only[List.mem_cons,List.not_mem_nil,or_false]at hsp
  rcases hsp with rfl|rfl|rfl
  ·rcases hr.kinds with rfl|rfl
   ·rw[List.append_nil]
    exact .stop λw₁ he=>⟨rfl,rfl,.inr ⟨σ,D,s,fr,cs,a,a',hj,rfl,⟨hr.sp,hr.both,hr.kinds,hr.args,hr.rel.env he,hr.deferred,hr.normal,hr.abP,hr.size⟩,hd,hlt,rfl⟩⟩
   ·have:=hr.abP rfl
    unfold nd at this
    simp at this
  ·exact E5 hE (dO.refl Lu) hG2 hr.kinds hlt hr.args hr.rel λs2 jA cs2 w2 hd hr2=>hnext σ D s2 jA cs2 w2 hj hd hr2
  ·exact zC hE (dO.refl Lu) hG2 hr.kinds hlt hr.args hr.rel λs2 jA cs2 w2 hd hr2=>hnext σ D s2 jA cs2 w2 hj hd hr2
theorem Sit.jump{σ:Nat->Nat}{D:Nat->Prop}{T:Tables}{u u' w w':World}(h:Sit σ D T W0 u w)(hu:RowKit.Below u.heap.size u u')(hw:∀r,D r->w'.heap[σ r]? =w.heap[σ r]?)(hs:w.heap.size<=w'.heap.size)(ho:w'.os=w.os):Sit σ D T W0 u' w':=by
 have hb:∀r,D r->u'.heap[r]? =u.heap[r]? :=λr hr=>hu.block r (h.bound r hr)
 refine⟨⟨λr o hr ho=> ?_,λr hr hle=> ?_,Nat.le_trans h.wr.low hu.size,λa ha hlt z hz hc=> ?_,hu.os.trans (h.wr.os.trans ho.symm)⟩,h.inj,h.glob,λr hr=>Nat.lt_of_lt_of_le (h.bound r hr) hu.size,Nat.le_trans h.gu hu.size,Nat.le_trans h.gw hs⟩
 ·rw[hb r hr]at ho
  obtain⟨o',h1,h2⟩:=h.wr.obj r o hr ho
  exact⟨o',by rw[hw r hr];exact h1,h2⟩
 ·have:=h.bound r hr
  have:=hu.size
  omega
 ·rw[<-h.wr.orig a ha hlt z hz (by rw[<-hc];unfold World.cell?;rw[hb _ ha])]
  unfold World.cell?
  dsimp only
  rw[hw _ ha]
def abX(R:FuncId->Value->World->Prop)(W0:World)(Dz:Nat->Prop)(Post:Value->World->Prop):Prop:=
 ∀σ D s fr w,JI Dz σ D->LT (ah Hm) Xf R s.1 s.2.1 s.2.2->gJ s.1 s.2.1->Rel (Tryz.prog).toTables (dP Hm) (Tryz.prog).funcs Sp W0 σ D s fr [] w->mW (λb=>b<W0.heap.size/\¬Dz b) W0 w->
  ∃v,stepG Tryz.prog true (G fr []) w=.ended (.done v) w #[]/\Post v w
theorem aaF{Post:Value->World->Prop}(hR:∀g v w,R g v w->∃fn t,(ah Hm).funcs[g]? =some fn/\fn.results= #[.tmp t]){gb:ByteArray->Int×Int×Int->Bool}(YL:∀s:ByteArray,s.size<1000000000000->tN s (gb s))
  (hone:∀(s:ByteArray)(c:Int×Int×Int)(u:World),s.size<1000000000000->0<=c.1->0<=c.2.1->c.1<=c.2.2->c.2.2+4<=(s.size:Int)->Calls (ah Hw) 138 #[.agg #[.int .i64 c.1,.int .i64 c.2.1,.int .i64 c.2.2],.string s] u (λe _=>e=.returned (.bool (gb s c))))
  (ajd:abX R W0 Dz Post):∀s0:LS,LT (ah Hm) Xf R s0.1 s0.2.1 s0.2.2->∀(S:Nat->Prop)(σ:Nat->Nat)(D:Nat->Prop)(fr:Frame)(cs:List Frame)(gs:Array Goroutine)(w:World)(sl:Option (Nat×Nat))(t:Trace)(q:Nat->Nat),
   JI Dz σ D->Rel (Tryz.prog).toTables (dP Hm) (Tryz.prog).funcs Sp W0 σ D s0 fr cs w->pU Tryz.prog S gs w t (img σ D) q->gs[0]? =some (G fr cs)->(∀b,S b->W0.heap.size<=b)->mW (λb=>b<W0.heap.size/\¬Dz b) W0 w->(∀b,img σ D b->Dz b\/W0.heap.size<=b)->
   oN Post (crowd gs w sl) t:=by
 intro s0 hlt0
 have hacc:Acc (Relation.TransGen (mV (ah Hm) Xf)) s0:=Acc.transGen (EK hlt0 s0.2.2.tape)
 induction hacc with
 |intro s0 _ ih=>
 intro S σ D fr cs gs w sl t q hj hr hc ha hS hsame hown
 refine uN (oN Post) Fh jk (λO g w=>(agv R W0 Dz s0 O g w\/Eb R W0 Dz s0 O g w)/\mW (λb=>b<W0.heap.size/\¬Dz b) W0 w/\∀b,O b->Dz b\/W0.heap.size<=b) ?_ gs w sl t (img σ D) q (G fr cs) hc (Gz hc.ti.seen λb hb=>hb.elim) ha
  (OT.weaken (λO d g w⟨h1,h2,h3⟩=>⟨h1.1,h1.2.1,h1.2.2,h2,λb hb=>(h3 b hb).elim (hown b) .inr⟩) (OT.kept (Tf hlt0 hj hr) (λb hb=>⟨Nat.lt_of_lt_of_le hb.1 hsame.size,λhi=>(hown b hi).elim hb.2 λh=>by have:=hb.1;omega⟩) hsame))
 clear hr hc ha hsame hown hj
 intro gs w sl t O q a hc _ ha _ hF
 obtain⟨hFF,hsame,hown⟩:=hF w (dO.refl Lu _ _)
 rcases hFF with⟨σ,D,s,fr,cs,hj,rfl,hlt,hr,hend,rfl⟩|⟨σ,D,s,fr,cs,av,av',hj,rfl,hr,hd,hlt,rfl⟩
 ·
  obtain rfl:cs=[]:=by
   have h1:=hr.cs
   rw[hend.1]at h1
   cases h1
   rfl
  refine VU hc ha λw₁ hw₁=>⟨rfl,?_⟩
  obtain⟨d,rfl⟩:=hw₁
  exact ajd σ D s fr _ hj hlt hend (hr.env (Gp Lu _ w d)) ⟨hsame.tape,hsame.os,hsame.output,hsame.size,hsame.heap⟩
 ·
  have hargs:=hr.args
  have c0':bf (ah Hm) Xf R (Frame.enter (ah Hm) 122 av .normal,s.1::s.2.1,s.2.2) (Frame.enter (ah Hm) 122 av .normal) (s.1::s.2.1) s.2.2:=⟨hlt,.inl rfl⟩
  have hsit:=hr.rel.sit
  have hsz:=hr.size (by unfold nd;simp)
  obtain⟨str,ad,n,cap,cu,v,u',rfl,hs1,hn1,hcut,hv,hbel,abY⟩:=Td hR YL hsz (λp n cc hp=>by
   have h1:1<av.size:=by omega
   obtain⟨y,hy,hxy⟩:=hargs.get (Array.getElem?_eq_getElem h1)
   rw[show av.getD 1 undef=av[1] by simp[h1]]at hp
   rw[hp]at hxy
   cases hxy with
   |slice hA=>exact hsit.acS hA.1) c0'
  obtain⟨ad',rfl,aje⟩:∃ad',av'= #[.string str,.slice ad' n cap]/\(∀p,ad=some p->∃p',ad'=some p'/\AR σ D p p'):=by
   obtain⟨l⟩:=av'
   have hl:=hargs.1
   rcases l with _|⟨y0,_|⟨y1,_|⟨_,_⟩⟩⟩<;>simp at hl
   have h0:=hargs.2 0 (.string str) y0 rfl rfl
   have h1:=hargs.2 1 (.slice ad n cap) y1 rfl rfl
   cases h0
   cases h1 with
   |fK=>exact⟨none,rfl,λp hp=>by cases hp⟩
   |slice hA=>exact⟨_,rfl,λp hp=>by cases hp;exact⟨_,rfl,hA⟩⟩
  obtain⟨bb,off,ajf,hcc⟩:∃bb off,(0<n->ad'=some ⟨bb,off,none⟩/\∃r,D r/\bb=σ r)/\∀i,i<n->w.cell? ⟨bb,off+i*3,none⟩=some (.int .i64 (cu i).1)/\w.cell? ⟨bb,off+i*3+1,none⟩=some (.int .i64 (cu i).2.1)/\w.cell? ⟨bb,off+i*3+2,none⟩=some (.int .i64 (cu i).2.2):=by
   rcases Nat.eq_zero_or_pos n with h0|h0
   ·exact⟨0,0,λh=>by omega,λi hi=>by omega⟩
   ·obtain⟨p,hp,hc0⟩:=hcut 0 h0
    obtain⟨p',hp',hA⟩:=aje p hp
    have hsp:=hc0.spot rfl
    obtain⟨hD,rfl⟩:=hA
    have e1:∀o,AR σ D ⟨p.block,o,none⟩ ⟨σ p.block,o,none⟩:=λo=>⟨hD,rfl⟩
    refine⟨σ p.block,p.off,λ_=>⟨?_,p.block,hD,rfl⟩,λi hi=> ?_⟩
    ·rw[hp']
     obtain⟨pb,po,ps⟩:=p
     dsimp only at hsp⊢
     rw[hsp]
    ·obtain⟨p2,hp2,hc2⟩:=hcut i hi
     obtain rfl:p2=p:=by rw[hp]at hp2;exact(Option.some.inj hp2).symm
     exact⟨(hsit.num (e1 _) hc2.at0).1,(hsit.num (e1 _) hc2.at1).1,(hsit.num (e1 _) hc2.at2).1⟩
  have hOl:∀r,D r->σ r<w.heap.size:=λr hr=>hc.ge.lt 0 _ ⟨rfl,r,hr,rfl⟩
  have hOs:∀r,D r->¬S (σ r):=λr hr=>hc.ge.sh 0 _ ⟨rfl,r,hr,rfl⟩
  refine Wx (oN Post) Fh hc (b:=bb) (off:=off) (cu:=cu) (gb:=λi=>gb str (cu i)) ha hsit.gw hn1 (λh0=> ?_) hcc (λi hi u _=> ?_) ?_
  ·obtain⟨e,r,hr1,e2⟩:=ajf h0
   subst e2
   exact⟨e,hOl r hr1,hOs r hr1⟩
  ·obtain⟨p,_,h⟩:=hcut i hi
   exact hone str (cu i) u hs1 h.le0 h.le1 h.le2 h.le3
  ·intro gs' w' sl' t' q' S' v' hv' hc' ha' hS' rQ
   obtain rfl:v'=v:=by
    have h1:=hv'.trans hv.symm
    cases v<;>cases v'<;>simp_all
   have hnext:Relation.TransGen (mV (ah Hm) Xf) (s.1.finish (.bool v'),s.2.1,u') s0:=by
    rcases abY.desc with e|x
    ·have:=congrArg (λz:LS=>z.2.1.length) e
     simp at this
    ·exact .trans x hd
   refine ih (s.1.finish (.bool v'),s.2.1,u') hnext abY.lt S' σ D (fr.finish (.bool v')) cs gs' w' sl' t' q' hj ⟨hsit.jump hbel (λr hr=> ?_) rQ.size rQ.os,gB hr.rel.fr (.bool v'),hr.rel.cs,hr.rel.bot.top (eP _ _)⟩ hc' ha' (λb hb=>(hS' b hb).elim (hS b) λh=>Nat.le_trans hsame.size h) ⟨rQ.tape.trans hsame.tape,rQ.os.trans hsame.os,rQ.output.trans hsame.output,Nat.le_trans hsame.size rQ.size,λb hb=> ?_⟩ hown
   ·exact rQ.heap _ ⟨hOl r hr,hOs r hr⟩
   ·refine(rQ.heap b ⟨Nat.lt_of_lt_of_le hb.1 hsame.size,λhs=> ?_⟩).trans (hsame.heap b hb)
    have:=hS b hs
    have:=hb.1
    omega
end
end Go.Proofs.YtlncengggmgdgaaGreat.par
namespace Go.Proofs.YtlncengggmgdgaaGreat.par
open Go Go.Conc
def kX(P:Nat->Bool):Value->Value
 | .agg cs=>.agg (cs.attach.map λx=>kX P x.1)
 | .pointer (some a)=>if P a.block then .pointer (some a)else undef
 | .slice (some a) l c=>if P a.block then .slice (some a) l c else undef
 | .func (.method m) f c=>.func (.method "") #[.iface UC (.tuple #[.func (.method m) f c])] #[]
 | .func _ _ _=>undef
 | .map (some _)=>undef
 | .chan (some _)=>undef
 | .iface _ _=>undef
 | .tuple _=>undef
 |v=>v
decreasing_by
 have:=Array.sizeOf_lt_of_mem x.2
 simp
 omega
theorem Xg(P:Nat->Bool):∀v,VR id (λr=>P r=true) (kX P v) v
 | .agg cs=>by
  unfold kX
  refine .agg (by simp) λi x y hx hy=> ?_
  have hm:y∈cs:=Array.mem_of_getElem? hy
  have:SizeOf.sizeOf y<SizeOf.sizeOf cs:=Array.sizeOf_lt_of_mem hm
  obtain rfl:kX P y=x:=by
   obtain⟨hi,rfl⟩:=Array.getElem?_eq_some_iff.1 hy
   obtain⟨_,rfl⟩:=Array.getElem?_eq_some_iff.1 hx
   simp
  exact Xg P y
 | .pointer none=>by unfold kX;exact .bT
 | .pointer (some a)=>by
  unfold kX
  split
  ·exact .ptr ⟨by assumption,rfl⟩
  ·exact .undef _ rfl
 | .slice none l c=>by unfold kX;exact .fK l c
 | .slice (some a) l c=>by
  unfold kX
  split
  ·exact .slice ⟨by assumption,rfl⟩ l c
  ·exact .undef _ rfl
 | .func (.method m) f c=>by unfold kX;exact .weird m f c
 | .func (.func _) _ _=>by unfold kX;exact .undef _ rfl
 | .func (.methodOf ..) _ _=>by unfold kX;exact .undef _ rfl
 | .func (.via ..) _ _=>by unfold kX;exact .undef _ rfl
 | .func (.yield ..) _ _=>by unfold kX;exact .undef _ rfl
 | .map none=>by unfold kX;exact .jy
 | .map (some _)=>by unfold kX;exact .undef _ rfl
 | .chan none=>by unfold kX;exact .jg
 | .chan (some _)=>by unfold kX;exact .undef _ rfl
 | .iface _ _=>by unfold kX;exact .undef _ rfl
 | .tuple _=>by unfold kX;exact .undef _ rfl
 | .bool b=>by unfold kX;exact .bool b
 | .int k n=>by unfold kX;exact .int k n
 | .float k n=>by unfold kX;exact .float k n
 | .complex k n m=>by unfold kX;exact .complex k n m
 | .string s=>by unfold kX;exact .string s
 | .nilFunc=>by unfold kX;exact .jh
 | .nilIface=>by unfold kX;exact .iH
termination_by v=>SizeOf.sizeOf v
decreasing_by
 simp
 omega
theorem Xh{P:Nat->Bool}{σ:Nat->Nat}{D:Nat->Prop}(hσ:∀r,P r=true->σ r=r){v y:Value}(h:VR σ D (kX P v) y)(hta:DV (kX P v)=true->y=v):y=v:=by
 cases v with
 |agg cs=>exact hta (by rw[kX];rfl)
 |tuple cs=>exact hta (by rw[kX];rfl)
 |iface t x=>exact hta (by rw[kX];rfl)
 |pointer a=>
  cases a with
  |none=>unfold kX at h;cases h;rfl
  |some a=>
   by_cases hp:P a.block=true
   ·rw[kX,if_pos hp]at h
    cases h with
    |ptr ha=>
     obtain⟨_,rfl⟩:=ha
     rw[hσ _ hp]
   ·exact hta (by rw[kX,if_neg hp];rfl)
 |slice a l c=>
  cases a with
  |none=>unfold kX at h;cases h;rfl
  |some a=>
   by_cases hp:P a.block=true
   ·rw[kX,if_pos hp]at h
    cases h with
    |slice ha=>
     obtain⟨_,rfl⟩:=ha
     rw[hσ _ hp]
   ·exact hta (by rw[kX,if_neg hp];rfl)
 |func fn f c=>
  cases fn with
  |method m=>rw[kX]at h;cases h;rfl
  |_=>exact hta (by unfold kX;rfl)
 |map a=>
  cases a with
  |none=>unfold kX at h;cases h;rfl
  |some a=>exact hta (by unfold kX;rfl)
 |chan a=>
  cases a with
  |none=>unfold kX at h;cases h;rfl
  |some a=>exact hta (by unfold kX;rfl)
 |_=>unfold kX at h;cases h;rfl
def J7(W:World)(r:Nat):Bool:=
 match W.heap[r]? with
 |some (.cells ..)=>true
 |_=>false
theorem wZ{W:World}{r:Nat}:J7 W r=true↔∃c e f,W.heap[r]? =some (.cells c e f):=by
 unfold J7
 constructor
 ·split
  ·rename_i h
   exactλ_=>⟨_,_,_,h⟩
  ·exactλh=>by cases h
 ·rintro⟨c,e,f,h⟩
  rw[h]
def Xi(P:Nat->Bool):Obj->Obj
 | .cells c e f=>.cells (c.map (kX P)) e f
 |o=>o
def iD(W:World):World:={W with heap:=W.heap.map (Xi (J7 W))}
theorem kM(W:World):(iD W).heap.size=W.heap.size:=by simp[iD]
theorem CZ{W:World}{r:Nat}{c:Array Value}{e:TypeId}{f:Nat×Nat}(h:W.heap[r]? =some (.cells c e f)):(iD W).heap[r]? =some (.cells (c.map (kX (J7 W))) e f):=by
 simp[iD,h,Xi]
theorem N9{W:World}{a:Addr}{v:Value}(h:W.cell? a=some v)(hv:kX (J7 W) v=v):(iD W).cell? a=some v:=by
 unfold World.cell? at h⊢
 split at h
 ·rename_i c e f hb
  rw[CZ hb]
  dsimp only
  split at h
  ·cases h
  ·rw[if_neg (by assumption),Array.getElem?_map,h]
   simp[hv]
 ·cases h
abbrev Dz(W:World):Nat->Prop:=λr=>J7 W r=true
theorem abZ{W:World}{r:Nat}(h:Dz W r):r<W.heap.size:=by
 obtain⟨c,e,f,h⟩:=wZ.1 h
 exact(Array.getElem?_eq_some_iff.1 h).1
theorem Ti{T:Tables}{W:World}(hg:T.globals.size<=W.heap.size):Sit id (Dz W) T W (iD W) W:=by
 refine⟨⟨λr o hr ho=> ?_,λr hr hle=> ?_,by rw[kM];exact Nat.le_refl _,λa ha hlt z hz hc=>rfl,rfl⟩,λ_ _ _ _ h=>h,λ_ _=>Iff.rfl,λr hr=>by rw[kM];exact abZ hr,by rw[kM];exact hg,hg⟩
 ·obtain⟨c,e,f,h⟩:=wZ.1 hr
  rw[CZ h]at ho
  cases ho
  refine⟨_,h,.cells ⟨by simp,λi x y hx hy=> ?_⟩ e f⟩
  rw[Array.getElem?_map,hy]at hx
  cases hx
  exact Xg _ y
 ·rw[kM]at hle
  exact hle
theorem ab1{P:Program}{W:World}{base:Nat}{t:TypeId}{v:Value}(h:Cell.ok P W .any base t v):VR id (Dz W) v v:=by
 have has:∀{a:Addr}{e:TypeId}{n:Nat},W.has P .any base a e n->Dz W a.block:=by
  intro a e n h
  obtain⟨_,_,row,cells,h,_⟩:=h
  unfold World.shape? at h
  split at h
  ·rename_i hb
   exact wZ.2 ⟨_,_,_,hb⟩
  ·cases h
 unfold Cell.ok at h
 split at h
 ·exact .bool _
 ·exact .string _
 ·exact .int _ _
 ·exact .float _ _
 ·exact .complex _ _ _
 ·exact .bT
 ·exact .fK _ _
 ·exact .ptr ⟨has h,rfl⟩
 ·exact .slice ⟨has h.2.2,rfl⟩ _ _
 ·exact h.elim
section
variable {f : FuncId} {args : Array Value} {W : World} {fn fn' : Func} {k k' : Tmp}
theorem ad6(hfn:(Tryz.prog).funcs[f]? =some fn)(hres:fn.results= #[.tmp k])(hi:(Tryz.prog).inits.idxOf? f=none){τ0:Nat->Question->Nat}:
  abX (λg v w=>g=f/\v=.bool true/\RowKit.Below W.heap.size (tp (iD W) w.tape) w) W (Dz W) (λv w=>v=.bool true/\RowKit.Below W.heap.size W w):=by
 intro σ D s fr w hj hlt hend hr hsame
 obtain⟨fr',cs',u⟩:=s
 dsimp only at hlt hend hr
 obtain⟨rfl,hmd⟩:=hend
 cases hlt with
 |step hn=>exact absurd ⟨rfl,hmd⟩ hn
 | @stop _ _ v τ hl hR=>
  obtain⟨rfl,rfl,hb⟩:=hR
  have hl':fr'.leaving ⟨(Tryz.prog).toTables,dP Hm⟩ (tp u τ) (.returned (.bool true)):=hl
  have hfe:=hr.fr.fn
  obtain⟨v',hv,hst⟩:=VW hr.fr hl' (fn:=fn) (by rw[<-hfe];exact hfn) hres (by rw[<-hfe];exact hi) w
  cases hv
  refine⟨_,hst,rfl,hsame.os,hsame.tape,hsame.output,hsame.size,λr hr2=> ?_⟩
  by_cases hz:Dz W r
  ·obtain⟨c,e,g,h⟩:=wZ.1 hz
   have hu:u.heap[r]? =some (.cells (c.map (kX (J7 W))) e g):=by
    have:=hb.block r hr2
    exact this.trans (CZ h)
   obtain⟨hd,hs⟩:=hj r hz
   obtain⟨o',h1,h2⟩:=hr.sit.wr.obj r _ hd hu
   rw[hs]at h1
   rw[h1,h]
   cases h2 with
   | @cells _ c' hc=>
    suffices hcc:c'=c by rw[hcc]
    refine Array.ext ((hc.1).symm.trans (by simp)) λi h3 h4=> ?_
    have hcu:u.cell? ⟨r,i,none⟩=some (kX (J7 W) c[i]):=by
     unfold World.cell?
     dsimp only
     rw[hu]
     simp[h4]
    have hcw:w.cell? ⟨r,i,none⟩=some c'[i]:=by
     unfold World.cell?
     dsimp only
     rw[h1]
     simp[h3]
    have hcW:W.cell? ⟨r,i,none⟩=some c[i]:=by
     unfold World.cell?
     dsimp only
     rw[h]
     simp[h4]
    refine Xh (λr hr=>(hj r hr).2) (hc.2 i _ _ (by simp[h4]) (by simp[h3])) λht=> ?_
    have:=hr.sit.wr.orig ⟨r,i,none⟩ hd hr2 _ ht hcu
    rw[show({(⟨r,i,none⟩:Addr)with block:=σ r}:Addr)=⟨r,i,none⟩ by rw[hs],hcw,hcW]at this
    exact Option.some.inj this
  ·exact hsame.heap r ⟨hr2,hz⟩
theorem Xj(hfn:(Tryz.prog).funcs[f]? =some fn)(hres:fn.results= #[.tmp k])(hfn':(ah Hm).funcs[f]? =some fn')(hres':fn'.results= #[.tmp k'])(hi:(Tryz.prog).inits.idxOf? f=none)(hsp:¬Sp f)(hboth:Both (dP Hm) (Tryz.prog).funcs f)
  (hg:(Tryz.prog).toTables.globals.size<=W.heap.size) (hargs:dI id (Dz W) args args) {gb:ByteArray->Int×Int×Int->Bool} (YL:∀s:ByteArray,s.size<1000000000000->tN s (gb s))
  (hone:∀(s:ByteArray)(c:Int×Int×Int)(u:World),s.size<1000000000000->0<=c.1->0<=c.2.1->c.1<=c.2.2->c.2.2+4<=(s.size:Int)->Calls (ah Hw) 138 #[.agg #[.int .i64 c.1,.int .i64 c.2.1,.int .i64 c.2.2],.string s] u (λe _=>e=.returned (.bool (gb s c))))
  (ajg:∀τ,Calls (ah Hm) f args (tp (iD W) τ) (λe w=>e=.returned (.bool true)/\RowKit.Below W.heap.size (tp (iD W) τ) w)):
  oN (λv w=>v=.bool true/\RowKit.Below W.heap.size W w) (crowd #[G (Frame.enter Tryz.prog f args .normal) []] W none) #[]:=by
 have hsit:Sit id (Dz W) (Tryz.prog).toTables W (iD W) W:=Ti hg
 have hfr:jf id (Dz W) (Tryz.prog).toTables Sp (dP Hm) (Tryz.prog).funcs (Frame.enter (ah Hm) f args .normal) (Frame.enter Tryz.prog f args .normal):=l9 (P':=ah Hm) (P:=Tryz.prog) (Jd Hm) hboth hsp hargs (.inl rfl) fM rfl
 have hlt:LT (ah Hm) Xf (λg v w=>g=f/\v=.bool true/\RowKit.Below W.heap.size (tp (iD W) w.tape) w) (Frame.enter (ah Hm) f args .normal) [] (iD W):=
  zk (R:=λτ v w=>v=.bool true/\RowKit.Below W.heap.size (tp (iD W) τ) w) zp (wu Hm) (uT Hm) ⟨id,Dz W,W,_,[],W,hsit,l9 (P':=ah Hm) (P:=ah Hm) (wu Hm) (by obtain⟨g',_,c',_,a1,_,a3,_⟩:=hboth;exact⟨g',g',c',c',a1,a1,a3,a3⟩) (λh=>h) hargs (.inl rfl) fM fM,.nil,rfl⟩ λτ=>(ajg τ).mono λe w he=>⟨_,he.1,rfl,he.2⟩
 refine aaF (λg v w hR=>⟨fn',k',by rw[hR.1];exact hfn',hres'⟩) YL hone (ad6 hfn hres hi (τ0:=W.tape)) (Frame.enter (ah Hm) f args .normal,[],iD W) hlt jk id (Dz W) _ [] _ W none #[] (λ_=>0) (λr hr=>⟨hr,rfl⟩) ⟨hsit,hfr,.nil,rfl⟩ (Nu _ _ λb hb=> ?_) (by simp) (λb hb=>hb.elim) ⟨rfl,rfl,rfl,Nat.le_refl _,λ_ _=>rfl⟩ λb hb=> ?_
 ·obtain⟨r,hr,rfl⟩:=hb
  exact abZ hr
 ·obtain⟨r,hr,rfl⟩:=hb
  exact .inl hr
end
end Go.Proofs.YtlncengggmgdgaaGreat.par
