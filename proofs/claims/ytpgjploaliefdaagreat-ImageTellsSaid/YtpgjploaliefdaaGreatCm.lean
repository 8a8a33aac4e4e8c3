/- The plain mathematics of layer 3's sums: numbers, bits, lists. No program in sight. No conditions. -/
import Derived.KernelRfl
namespace Go.Proofs.YtpgjploaliefdaaGreat.cm
set_option linter.unusedVariables false
set_option linter.unusedSimpArgs false
def poly:Nat:=3988292384
def top32:Nat:=4294967295
def fG(c:Nat):Nat:=if c%2=1 then(c/2)^^^poly else c/2
def iter(f:Nat->Nat):Nat->Nat->Nat
 |0,c=>c
 |k+1,c=>iter f k (f c)
def gV(c:Nat):Nat:=iter fG 8 c
def TA(c b:Nat):Nat:=gV (c^^^b)
def gJ(c:Nat)(l:List Nat):Nat:=l.foldl TA c
def pW(c:Nat)(l:List Nat):Nat:=gJ (c^^^top32) l^^^top32
def iR(l:List Nat):Nat:=pW 0 l
def GN:List Nat->Nat
 |[]=>0
 |b::l=>b^^^(256*GN l)
attribute [irreducible] poly top32
theorem zo(f:Nat->Nat)(a b c:Nat):iter f (a+b) c=iter f b (iter f a c):=by
 induction a generalizing c with
 |zero=>simp[iter]
 |succ a ih=>rw[Nat.succ_add];simp[iter,ih]
theorem Dl(f:Nat->Nat)(k c:Nat):iter f (k+1) c=f (iter f k c):=by
 rw[zo];rfl
theorem TB(f:Nat->Nat)(m k c:Nat):iter (iter f m) k c=iter f (m*k) c:=by
 induction k generalizing c with
 |zero=>simp[iter]
 |succ k ih=>
  show iter (iter f m) k (iter f m c)=_
  rw[ih,<-zo,show m*(k+1)=m+m*k from by rw[Nat.mul_succ];omega]
theorem Dn(a b c d:Nat):(a^^^b)^^^(c^^^d)=(a^^^c)^^^(b^^^d):=by
 rw[Nat.xor_assoc,Nat.xor_assoc,<-Nat.xor_assoc b,<-Nat.xor_assoc c,Nat.xor_comm b c]
theorem vG{a b:Nat}(h:a^^^b=0):a=b:=by
 have h2:(a^^^b)^^^b=0^^^b:=by rw[h]
 rw[Nat.xor_assoc,Nat.xor_self]at h2
 simpa using h2
theorem tH(a b:Nat):(a^^^b)^^^b=a:=by rw[Nat.xor_assoc,Nat.xor_self];simp
theorem Oe{a b c:Nat}(h:a^^^c=b^^^c):a=b:=by rw[<-tH a c,h,tH]
theorem Po(a b:Nat):fG (a^^^b)=fG a^^^fG b:=by
 have h2:= @Nat.xor_mod_two_eq_one a b
 have h3:(a^^^b)/2=a/2^^^b/2:=Nat.xor_div_two
 unfold fG
 by_cases ha:a%2=1<;>by_cases hb:b%2=1
 ·rw[if_neg (by rw[h2];simp[ha,hb]),if_pos ha,if_pos hb,h3,Dn,Nat.xor_self];simp
 ·rw[if_pos (by rw[h2];simp[ha,hb]),if_pos ha,if_neg hb,h3,Nat.xor_assoc,Nat.xor_comm (b/2),<-Nat.xor_assoc]
 ·rw[if_pos (by rw[h2];simp[ha,hb]),if_neg ha,if_pos hb,h3,Nat.xor_assoc]
 ·rw[if_neg (by rw[h2];simp[ha,hb]),if_neg ha,if_neg hb,h3]
theorem Lj:fG 0=0:=rfl
theorem Pq(x:Nat):fG (2*x)=x:=by
 unfold fG;rw[if_neg (by omega)];omega
theorem IU{c:Nat}(h:c<4294967296):fG c<4294967296:=by
 unfold fG poly
 split
 ·exact Nat.xor_lt_two_pow (n:=32) (by omega) (by omega)
 ·omega
theorem Pv{c:Nat}(h:c<4294967296)(h0:fG c=0):c=0:=by
 unfold fG at h0
 split at h0
 ·have:=vG h0
  unfold poly at this;omega
 ·omega
theorem vH(k a b:Nat):iter fG k (a^^^b)=iter fG k a^^^iter fG k b:=by
 induction k generalizing a b with
 |zero=>rfl
 |succ k ih=>simp[iter,Po,ih]
theorem Ap(k:Nat):iter fG k 0=0:=by
 induction k with
 |zero=>rfl
 |succ k ih=>simp[iter,Lj,ih]
theorem CQ(k:Nat){c:Nat}(h:c<4294967296):iter fG k c<4294967296:=by
 induction k generalizing c with
 |zero=>exact h
 |succ k ih=>exact ih (IU h)
theorem IV(k:Nat){c:Nat}(h:c<4294967296)(h0:iter fG k c=0):c=0:=by
 induction k generalizing c with
 |zero=>exact h0
 |succ k ih=>exact Pv h (ih (IU h) h0)
theorem TD(k:Nat){a b:Nat}(ha:a<4294967296)(hb:b<4294967296)(h:iter fG k a=iter fG k b):a=b:=by
 apply vG
 refine IV k (Nat.xor_lt_two_pow (n:=32) ha hb) ?_
 rw[vH,h,Nat.xor_self]
theorem Dp(k x:Nat):iter fG k (2^k*x)=x:=by
 induction k generalizing x with
 |zero=>simp[iter]
 |succ k ih=>
  rw[show 2^(k+1)*x=2*(2^k*x)from by rw[Nat.pow_succ];rw[Nat.mul_comm (2^k) 2,Nat.mul_assoc]]
  simp[iter,Pq,ih]
theorem Fv(a b:Nat):gV (a^^^b)=gV a^^^gV b:=vH 8 a b
theorem IW{c:Nat}(h:c<4294967296):gV c<4294967296:=CQ 8 h
theorem Fz(x:Nat):gV (256*x)=x:=Dp 8 x
theorem Zq:gV 0=0:=Ap 8
theorem kR(k c:Nat):iter gV k c=iter fG (8*k) c:=TB fG 8 k c
theorem FB(k a b:Nat):iter gV k (a^^^b)=iter gV k a^^^iter gV k b:=by simp only[kR,vH]
theorem ace(k:Nat){c:Nat}(h:c<4294967296):iter gV k c<4294967296:=by rw[kR];exact CQ _ h
theorem Px(k:Nat){a b:Nat}(ha:a<4294967296)(hb:b<4294967296)(h:iter gV k a=iter gV k b):a=b:=by
 rw[kR,kR]at h;exact TD _ ha hb h
theorem IX(c k:Nat):c=(c%2^k)^^^(2^k*(c/2^k)):=by
 apply Nat.eq_of_testBit_eq
 intro i
 rw[Nat.testBit_xor,Nat.testBit_mod_two_pow,Nat.mul_comm,Nat.testBit_mul_two_pow,Nat.testBit_div_two_pow]
 by_cases h:i<k
 ·simp[h,Nat.not_le.2 h]
 ·have:i-k+k=i:=by omega
  simp[h,this];omega
theorem tJ(c:Nat):c=(c%256)^^^(256*(c/256)):=IX c 8
theorem TF(c b:Nat):gV ((c%256)^^^b)^^^(c/256)=TA c b:=by
 have h:c^^^b=((c%256)^^^b)^^^(256*(c/256)):=by
  conv=>lhs;rw[tJ c]
  rw[Nat.xor_assoc,Nat.xor_comm (256*(c/256)) b,<-Nat.xor_assoc]
 unfold TA
 rw[h,Fv (c%256^^^b),Fz]
theorem IY{a b:Nat}(ha:a<256)(hb:b<256):a^^^b<256:=Nat.xor_lt_two_pow (n:=8) ha hb
theorem kL{a b:Nat}(ha:a<4294967296)(hb:b<4294967296):a^^^b<4294967296:=Nat.xor_lt_two_pow (n:=32) ha hb
theorem Zr{c b:Nat}(hc:c<4294967296)(hb:b<256):TA c b<4294967296:=IW (kL hc (by omega))
theorem vI(l:List Nat){c:Nat}(hc:c<4294967296)(hl:∀b∈l,b<256):gJ c l<4294967296:=by
 induction l generalizing c with
 |nil=>exact hc
 |cons b l ih=>exact ih (Zr hc (hl b (by simp))) (λx hx=>hl x (by simp[hx]))
theorem zq(l:List Nat){c:Nat}(hc:c<4294967296)(hl:∀b∈l,b<256):pW c l<4294967296:=
 kL (vI l (kL hc (by unfold top32;omega)) hl) (by unfold top32;omega)
theorem GR(c:Nat)(a b:List Nat):gJ c (a++b)=gJ (gJ c a) b:=by simp[gJ,List.foldl_append]
theorem Dq(c:Nat)(a:List Nat)(x:Nat):gJ c (a++[x])=TA (gJ c a) x:=by simp[gJ,List.foldl_append]
theorem mO(c:Nat)(l:List Nat):gJ c l=iter gV l.length (c^^^GN l):=by
 induction l generalizing c with
 |nil=>simp[gJ,GN,iter]
 |cons b l ih=>
  show gJ (TA c b) l=iter gV (l.length+1) (c^^^GN (b::l))
  rw[ih]
  show _=iter gV l.length (gV (c^^^(b^^^256*GN l)))
  rw[<-Nat.xor_assoc,Fv,Fz];rfl
theorem Py(c d:Nat)(l:List Nat):gJ (c^^^d) l=iter gV l.length c^^^gJ d l:=by
 rw[mO,mO,Nat.xor_assoc,FB]
def lK(a b n:Nat):Nat:=iter gV n a^^^b
theorem oQ(c:Nat)(a b:List Nat):pW c (a++b)=pW (pW c a) b:=by
 unfold pW
 rw[GR,tH]
theorem sum_append(a b:List Nat):iR (a++b)=lK (iR a) (iR b) b.length:=by
 unfold iR lK
 rw[oQ]
 show gJ (pW 0 a^^^top32) b^^^top32=_
 rw[Py,Nat.xor_assoc]
 show _=_^^^(gJ (0^^^top32) b^^^top32)
 simp
theorem WI(a b c n m:Nat):lK (lK a b n) c m=lK a (lK b c m) (n+m):=by
 unfold lK
 rw[FB,<-zo,Nat.xor_assoc]
theorem abB(k:Nat):lK 0 (iR (List.replicate k 0)) k=iR (List.replicate k 0):=by
 unfold lK
 rw[kR,Ap];simp
def le4(c:Nat):List Nat:=[c%256,c/256%256,c/65536%256,c/16777216%256]
theorem zu(c:Nat)(h:c<4294967296):GN (le4 c)=c:=by
 have e1:=tJ c
 have e2:=tJ (c/256)
 have e3:=tJ (c/256/256)
 have e4:c/256/256/256=c/16777216%256:=by omega
 have e5:c/256/256=c/65536:=by omega
 unfold le4
 simp only[GN]
 simp only[Nat.mul_zero,Nat.xor_zero]
 rw[<-e4,<-e5,<-e3,<-e2,<-e1]
theorem TG(s:Nat)(h:s<4294967296):gJ (s^^^top32) (le4 s)=iter gV 4 top32:=by
 rw[mO,zu _ h,Nat.xor_comm s top32,tH]
 rfl
theorem acf(a:List Nat)(h:iR a<4294967296):iR (a++le4 (iR a))=iter gV 4 top32^^^top32:=by
 have e:iR (a++le4 (iR a))=pW (iR a) (le4 (iR a)):=oQ 0 a _
 rw[e]
 show gJ (iR a^^^top32) (le4 (iR a))^^^top32=_
 rw[TG _ h]
theorem WX(a:List Nat)(ha:∀b∈a,b<256){x y:Nat}(hx:x<4294967296)(hy:y<4294967296):iR (a++le4 x)=iR (a++le4 y)↔x=y:=by
 constructor
 ·intro h
  unfold iR at h
  rw[oQ,oQ]at h
  generalize hs:pW 0 a=s at h
  have hs':s<4294967296:=by rw[<-hs];exact zq a (by omega) ha
  unfold pW at h
  have h2:=Oe h
  rw[mO,mO,zu _ hx,zu _ hy]at h2
  have hl:(le4 x).length=(le4 y).length:=rfl
  rw[hl]at h2
  have hF:s^^^top32<4294967296:=kL hs' (by unfold top32;omega)
  have h3:=Px _ (kL hF hx) (kL hF hy) h2
  rw[Nat.xor_comm _ x,Nat.xor_comm _ y]at h3
  exact Oe h3
 ·rintro rfl;rfl
theorem ajL(a b:List Nat)(hl:a.length=b.length)(k T:Nat)(hk:k<=8*a.length)(hT:T<4294967296)(hd:GN a^^^GN b=2^k*T):iR a=iR b↔T=0:=by
 have h1:iR a^^^iR b=iter fG (8*a.length-k) T:=by
  unfold iR pW
  rw[Dn,Nat.xor_self,Nat.xor_zero,mO,mO,<-hl,kR,kR,<-vH,Dn,Nat.xor_self,Nat.zero_xor,hd]
  rw[show 8*a.length=k+(8*a.length-k)from by omega,zo,Dp]
  congr 1;omega
 constructor
 ·intro h
  rw[h,Nat.xor_self]at h1
  exact IV _ hT h1.symm
 ·rintro rfl
  rw[Ap]at h1
  exact vG h1
attribute [irreducible] fG
end Go.Proofs.YtpgjploaliefdaaGreat.cm
