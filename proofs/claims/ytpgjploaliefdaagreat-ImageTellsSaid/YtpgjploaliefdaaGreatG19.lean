/- Bytes as numbers, frames as lists (out of Fo). No conditions. -/
import Derived.Test.YtpgjploaliefdaaGreatFl
import Derived.Test.YtpgjploaliefdaaGreatG18
import Derived.Deep.RegionWith
namespace Go.Proofs.YtpgjploaliefdaaGreat.fr
open Go.RowKit cm cw ga gr fl
set_option linter.unusedVariables false
set_option linter.unusedSimpArgs false
theorem Nq{a b:ByteArray}(h:aQ a=aQ b):a=b:=by
 apply ByteArray.ext
 apply Array.toList_inj.1
 unfold aQ at h
 exact(List.map_inj_right (λx y e=>UInt8.toNat_inj.1 e)).1 h
theorem yT(a b:ByteArray):aQ (a++b)=aQ a++aQ b:=by simp[aQ]
theorem Gs(s:ByteArray):By (aQ s):=nD s
theorem oq{l:List Nat}(h:By l):aQ (aG l)=l:=by
 unfold aQ aG
 rw[strOfNums_data]
 simp only[List.map_map]
 conv=>rhs;rw[<-List.map_id l]
 apply List.map_congr_left
 intro b hb
 have:=h b hb
 simp
 omega
theorem Ci(s:ByteArray):aG (aQ s)=s:=Nq (oq (Gs s))
theorem Yb{id:Nat}(body:ByteArray)(h:id<=127):aQ (oN id body)=SG id (aQ body):=by
 unfold oN SG
 rw[yT,yT,oq (by intro b hb;simp at hb;omega),oq (By.aW _),nC]
 simp
theorem Vx{id:Nat}(body:ByteArray)(h:id<=127):aQ (fF id body)=OX id (aQ body):=by
 unfold fF OX jM
 rw[yT,oq (By.le4 _),Yb body h]
def toF(f:Fr):OV:=((f.1:Int),aG f.2)
def Zc(f:OV):Fr:=(f.1.toNat,aQ f.2)
theorem toF_ofF{f:OV}(h:pz f):toF (Zc f)=f:=by
 unfold toF Zc
 refine Prod.ext ?_ (Ci _)
 dsimp only
 have:=h.1
 omega
theorem afo{f:Fr}(h:By f.2):Zc (toF f)=f:=by
 unfold toF Zc
 refine Prod.ext ?_ (oq h)
 simp
theorem ahl{f:OV}(h:pz f)(hs:f.2.size<18446744073709551616):(Zc f).Ok:=by
 unfold Zc Fr.Ok
 dsimp only
 obtain⟨h1,h2⟩:=h
 exact⟨⟨by omega,by omega⟩,Gs _,by rw[nC];exact hs⟩
theorem toF_ok{f:Fr}(h:f.Ok):pz (toF f):=by
 unfold toF pz
 dsimp only
 have:=h.1
 omega
theorem Yc{fs:List OV}(h:∀f∈fs,pz f):aQ ⟨(iC fs).toArray⟩=joinL (fs.map Zc):=by
 induction fs with
 |nil=>rfl
 |cons f fs ih=>
  have e:aQ ⟨(iC (f::fs)).toArray⟩=aQ (fF f.1.toNat f.2)++aQ ⟨(iC fs).toArray⟩:=by simp[iC,iQ,aQ]
  have:=h f (by simp)
  rw[e,ih (λg hg=>h g (List.mem_cons_of_mem _ hg)),Vx _ (by have:=this.2;omega),List.map_cons,yS]
  rfl
theorem afp{fs:List OV}(h:∀f∈fs,pz f):eH fs=(aG (joinL (fs.map Zc)),0):=by
 unfold eH
 rw[if_pos h,<-Yc h,Ci]
end Go.Proofs.YtpgjploaliefdaaGreat.fr
namespace Go.Proofs.YtpgjploaliefdaaGreat.fr
open Go Go.RowKit cm cw ga gr fl
set_option linter.unusedVariables false
set_option linter.unusedSimpArgs false
theorem sW(a b:List Nat):aG (a++b)=aG a++aG b:=by
 apply ByteArray.ext
 apply Array.toList_inj.1
 simp[aG,strOfNums]
theorem Rj(a:Nat)(b:List Nat):aG (a::b)=aG [a]++aG b:=sW [a] b
set_option maxRecDepth 100000 in
set_option maxHeartbeats 4000000 in
theorem wJ:∀(v:Nat)(w:World),v<18446744073709551616->
  Calls Tryz.prog 36 #[.int .u64 v] w λe w'=>e=.returned (.string (aG (aW v)))/\Below w.heap.size w w':=by
 intro v
 induction v using Nat.strongRecOn with
 |ind v ih=>
  intro w hv
  by_cases h:v<128
  ·have hw8:IntKind.u8.wrap (v:Int)=(v:Int):=II _ (by omega)
   have hcv:∀(n:Nat)(W':World),W'.cell? ⟨n,0,none⟩=some (.int .u8 (v:Int))->(convert 91 9 (.slice (some ⟨n,0,none⟩) 1 1)).run Tryz.prog W'=.ok (.string (aG [v])) W':=λn W' h=>OU _ v _ h
   have HE:=Lib.hid (iJ h)
   have h128:(v:Int)<128:=by omega
   clear ih
   go_enter Tryz.func36,Tryz.ntmps36
   go_wp2_with fail
   go_ret
   exact⟨by rw[HE.out];rfl,by exact bm⟩
  ·have HE:Hid (aG (aW v)=aG [v%128+128]++aG (aW (v/128))):=Lib.hid (by rw[ru h,Rj])
   obtain⟨y,hy⟩:∃y,y=v%128+128:=⟨_,rfl⟩
   rw[<-hy]at HE
   have hcv:∀(n:Nat)(W':World),W'.cell? ⟨n,0,none⟩=some (.int .u8 (y:Int))->(convert 91 9 (.slice (some ⟨n,0,none⟩) 1 1)).run Tryz.prog W'=.ok (.string (aG [y])) W':=λn W' h=>OU _ y _ h
   have IH:=Lib.hid (λW=>ih (v/128) (by omega) W (by omega))
   have hi:((v/128:Nat):Int)=(v:Int)/128:=by omega
   rw[hi]at IH
   have hB:(aG (aW (v/128))).size<=10:=by rw[aF];exact aX (by omega)
   have hA:(aG [y]).size=1:=aF _
   generalize aG (aW (v/128))=B at*
   generalize aG [y]=A at*
   have Vq:=gI A B (by omega)
   have hyi:(v:Int)%128+128=(y:Int):=by omega
   have hwy:IntKind.u8.wrap (y:Int)=(y:Int):=II _ (by omega)
   have htm:(v:Int).tmod 128=(v:Int)%128:=Int.tmod_eq_emod_of_nonneg (by omega)
   have anC:IntKind.u64.wrap ((v:Int).tmod 128+128)=(y:Int):=by rw[htm,Am _ (by omega)];omega
   have hwd:IntKind.u64.wrap ((v:Int)/128)=(v:Int)/128:=Am _ (by omega)
   clear htm
   have h128:¬(v:Int)<128:=by omega
   clear ih hy hyi hi
   go_enter Tryz.func36,Tryz.ntmps36
   go_wp2_with fail
   go_region_with
    (first
     |(go_at_call 36;refine(IH.out _).mono ?_;rintro e w1 ⟨rfl,k1⟩;obtain⟨k1c,k1f⟩:=vF k1;have k1z:=k1.size))
   all_goals
    go_wp2_with fail
    go_ret
    exact⟨by rw[HE.out];rfl,by exact bm⟩
theorem EC(x n:Nat)(w:World)(hn:n<=8)(hx:x<18446744073709551616)(h0:0<n):
  Calls Tryz.prog 77 #[.int .u64 x,.int .i64 n] w λe w'=>e=.returned (.string (aG (leB n x)))/\Below w.heap.size w w':=by
 go_enter Tryz.func77,Tryz.ntmps77
 go_wp2_with fail
 go_loopw [5,6] (λb i wr=>∃k:Nat,k<=n/\i=.int .i64 k/\Hid (OwnB wr w.heap.size b (leB k x))/\Hid (Below w.heap.size w wr)) (λ_ i _=>n-(intOf i).toNat)
 case atStart=>exact⟨0,Nat.zero_le _,rfl,Lib.hid (OwnB.nil _ _),Lib.hid (Below.refl _ _)⟩
 case round=>
  obtain⟨k,hk,rfl,ho,hb⟩:=hrel
  by_cases hlk:k<n
  ·have HQ:=Lib.hid (qE k x)
   have hq:x/256^k<18446744073709551616:=Nat.lt_of_le_of_lt (Nat.div_le_self _ _) hx
   have hdiv:(x:Int)/2^(8*k)=((x/256^k:Nat):Int):=by
    have hp:(256:Nat)^k=2^(8*k):=by rw[Nat.pow_mul]
    rw[hp];push_cast;rfl
   have HLL:=Lib.hid (iI k x)
   generalize x/256^k=Q at*
   obtain⟨y,hy⟩:∃y,y=Q%256:=⟨_,rfl⟩
   rw[<-hy]at HQ
   have htm:(Q:Int).tmod 256=(y:Int):=by rw[Int.tmod_eq_emod_of_nonneg (by omega)];omega
   have hy8:IntKind.u8.wrap (y:Int)=(y:Int):=II _ (by omega)
   have hk8:IntKind.i64.wrap (8*(k:Int))=((8*k:Nat):Int):=by rw[fK _ (by omega)];omega
   clear hy
   have hbs:=hb.out.size
   generalize leB k x=L at*
   go_wp2_with (at_builtin;refine zZ _ rfl _ _ rfl w.heap.size _ L y wr.heap.size 1 rfl rfl ?c0 ?c1 ?c2 ?c3 ?c4)
   case c0=>exact ho.out.tr (by exact bm)
   case c1=>simp[qB]
   case c2=>have:=HLL.out;omega
   case c3=>simp;omega
   case c4=>
   intro v' w2 ho2 hg hat
   have H2:Hid (OwnB w2 w.heap.size v' (leB (k+1) x)):=Lib.hid (by rw[HQ.out];exact ho2)
   have H3:Hid (Below w.heap.size w w2):=Lib.hid (grown_below hg (jU hb.out (Nat.le_refl _) _) (Nat.le_refl _) ho.out.block)
   clear ho2 hg hat
   go_wp2_with fail
   exact⟨⟨k+1,by omega,by go_num,H2,H3⟩,by simp[intOf];omega⟩
  ·obtain rfl:k=n:=by omega
   have hs:=ho.out.str (by rw[iI];exact h0)
   go_wp2_with fail
   go_ret
   exact⟨rfl,hb.out⟩
theorem Rk(x:Nat)(w:World)(hx:x<4294967296):
  Calls Tryz.prog 91 #[.int .u32 x] w λe w'=>e=.returned (.string (jM x))/\Below w.heap.size w w':=by
 have hw:IntKind.u64.wrap (x:Int)=(x:Int):=Am _ (by omega)
 go_enter Tryz.func91,Tryz.ntmps91
 go_wp2_with fail
 refine(EC x 4 _ (by omega) (by omega) (by omega)).mono ?_;rintro e w1 ⟨rfl,hb⟩
 rw[Y9]
 go_wp2_with fail
 go_ret
 exact⟨rfl,hb⟩
end Go.Proofs.YtpgjploaliefdaaGreat.fr
namespace Go.Proofs.YtpgjploaliefdaaGreat.fr
open Go.RowKit cm cw
set_option linter.unusedVariables false
set_option linter.unusedSimpArgs false
theorem Yd(c b:Nat)(w:World)(hc:c<4294967296)(hb:b<4294967296):
  Calls Tryz.prog 128 #[.int .u32 (c:Int),.int .u32 (b:Int)] w λe w'=>e=.returned (.int .u32 ((fG (c^^^b):Nat):Int))/\w=w':=by
 have hx:=u32_xor_nat c b hc hb
 have hl:=kL hc hb
 generalize hi:c^^^b=i at hx hl
 clear hi
 by_cases h1:i%2=1
 ·have H:=Lib.hid (J3 h1)
  have hy:=u32_xor_nat (i/2) 3988292384 (by omega) (by omega)
  rw[show((i/2:Nat):Int)=(i:Int)/2 from by omega,show((3988292384:Nat):Int)=3988292384 from rfl]at hy
  have h2:((i:Int)%2==1)=true:=by simp;omega
  clear h1
  go_enter Tryz.func128,Tryz.ntmps128
  go_wp2
  go_ret
  exact zi (by rw[H.out]) rfl
 ·have H:=Lib.hid (Gm h1)
  have h2:((i:Int)%2==1)=false:=by simp;omega
  clear h1
  go_enter Tryz.func128,Tryz.ntmps128
  go_wp2
  go_ret
  exact zi (by rw[H.out];omega) rfl
theorem aaM(c:Nat)(x:Int)(w:World)(hc:c<4294967296)(h1:0<=x)(h2:x<4294967296):
  Calls Tryz.prog 128 #[.int .u32 (c:Int),.int .u32 x] w λe w'=>e=.returned (.int .u32 ((fG (c^^^x.toNat):Nat):Int))/\w=w':=by
 obtain⟨k,rfl⟩:=Int.eq_ofNat_of_zero_le h1
 exact Yd c k w hc (by omega)
def bst(c b k:Nat):Nat:=iter fG k (c^^^(b%2^k))
theorem Vy(c b k:Nat):bst c b (k+1)=fG (bst c b k^^^(b/2^k%2)):=by
 have e:b%2^(k+1)=(b%2^k)^^^(2^k*(b/2^k%2)):=by
  have h:=IX (b%2^(k+1)) k
  rw[Nat.mod_mod_of_dvd _ (Nat.pow_dvd_pow 2 (by omega))]at h
  rw[h];congr 1;congr 1
  rw[Nat.pow_succ,Nat.mod_mul_right_div_self]
 unfold bst
 rw[e,Dl,<-Nat.xor_assoc,vH,Dp]
theorem aaN(b k:Nat)(hb:b<256):∃z:Nat,(b:Int)/2^k=(z:Int)/\z=b/2^k/\z<256:=
 ⟨b/2^k,by simp,rfl,Nat.lt_of_le_of_lt (Nat.div_le_self _ _) hb⟩
theorem Rl(c b:Nat)(w:World)(hc:c<4294967296)(hb:b<256):
  Calls Tryz.prog 120 #[.int .u32 (c:Int),.int .u8 (b:Int)] w λe w'=>e=.returned (.int .u32 ((TA c b:Nat):Int))/\w=w':=by
 have HE:Hid (bst c b 8=TA c b):=by show iter fG 8 (c^^^(b%256))=gV (c^^^b);rw[Nat.mod_eq_of_lt hb];rfl
 have HL:Hid (∀k,bst c b k<4294967296):=λk=>CQ k (kL hc (Nat.lt_of_le_of_lt (Nat.mod_le _ _) (by omega)))
 go_enter Tryz.func120,Tryz.ntmps120
 go_wp2_with fail
 go_loop [5,6] (λv i=>∃k:Nat,k<=8/\i=.int .i64 k/\v=.int .u32 ((bst c b k:Nat):Int)) (λ_ i=>8-(intOf i).toNat)
 case atStart=>exact⟨0,by omega,rfl,by simp[bst,iter,Nat.mod_one]⟩
 case round=>
  obtain⟨k,hk,rfl,rfl⟩:=hrel
  by_cases hlt:k<8
  ·have HS:=Lib.hid (Vy c b k)
   have hl:=HL.out k
   generalize hq:bst c b k=q at*
   clear hq
   obtain⟨z,hz,hzd,hzl⟩:=aaN b k hb
   have HZ:=Lib.hid hzd
   clear hzd
   go_wp2_with fail
   refine(aaM q _ _ hl (by omega) (by omega)).mono ?_;rintro e w' ⟨rfl,rfl⟩
   go_wp2_with fail
   exact⟨⟨k+1,by omega,by go_num,by rw[HS.out,<-HZ.out];congr 4⟩,by simp[intOf];omega⟩
  ·obtain rfl:k=8:=by omega
   go_wp2_with fail
   go_ret
   exact⟨by rw[<-HE.out];rfl,rfl⟩
set_option maxRecDepth 100000 in
theorem Rn(c:Nat)(s:ByteArray)(w:World)(h:c<4294967296)(hs:s.size<=maxLen):
  Calls Tryz.prog 105 #[.int .u32 (c:Int),.string s] w λe w'=>e=.returned (.int .u32 ((pW c (aQ s):Nat):Int))/\w=w':=by
 unfold maxLen at hs
 have hx:=u32_xor_nat c 4294967295 h (by omega)
 rw[show((4294967295:Nat):Int)=4294967295 from rfl]at hx
 have hct:c^^^4294967295=c^^^top32:=by unfold top32;rfl
 rw[hct]at hx
 have hc0:c^^^top32<4294967296:=kL h (by unfold top32;omega)
 have HM:Hid (pW c (aQ s)=gJ (c^^^top32) (aQ s)^^^top32):=rfl
 generalize hg:c^^^top32=c0 at hx hc0 HM
 clear hg hct
 have hend:=u32_xor_nat (gJ c0 (aQ s)) 4294967295 (vI _ hc0 (nD s)) (by omega)
 rw[show((4294967295:Nat):Int)=4294967295 from rfl]at hend
 have HE:=Lib.hid hend
 clear hend
 go_enter Tryz.func105,Tryz.ntmps105
 go_wp2_with fail
 go_loop [5,6] (λv i=>∃k:Nat,k<=s.size/\i=.int .i64 k/\v=.int .u32 ((gJ c0 ((aQ s).take k):Nat):Int)) (λ_ i=>s.size-(intOf i).toNat)
 case atStart=>exact⟨0,Nat.zero_le _,rfl,rfl⟩
 case round=>
  obtain⟨k,hk,rfl,rfl⟩:=hrel
  have hfl:gJ c0 ((aQ s).take k)<4294967296:=vI _ hc0 (λb hb=>nD s b (List.mem_of_mem_take hb))
  by_cases hlt:k<s.size
  ·have HS:Hid (gJ c0 ((aQ s).take (k+1))=TA (gJ c0 ((aQ s).take k)) s[k].toNat):=by rw[Cc s k hlt];exact Dq _ _ _
   generalize hq:gJ c0 ((aQ s).take k)=q at*
   clear hq
   go_wp2_with fail
   refine(Rl q _ _ hfl s[k].toNat_lt).mono ?_;rintro e w2 ⟨rfl,rfl⟩
   go_wp2_with fail
   exact⟨⟨k+1,by omega,by go_num,by rw[HS.out]⟩,by simp[intOf];omega⟩
  ·obtain rfl:k=s.size:=by omega
   have ht:(aQ s).take s.size=aQ s:=List.take_of_length_le (by rw[nC];omega)
   rw[ht]
   have hE:=HE.out
   go_wp2_with fail
   go_ret
   refine⟨?_,rfl⟩
   rw[HM.out];unfold top32;rfl
theorem Vz(s:ByteArray)(w:World)(hs:s.size<=maxLen):
  Calls Tryz.prog 92 #[.string s] w λe w'=>e=.returned (.int .u32 ((iR (aQ s):Nat):Int))/\w=w':=by
 go_enter Tryz.func92,Tryz.ntmps92
 go_wp2_with fail
 refine(Rn 0 s _ (by omega) hs).mono ?_;rintro e w2 ⟨rfl,rfl⟩
 go_wp2_with fail
 go_ret
 exact⟨rfl,rfl⟩
end Go.Proofs.YtpgjploaliefdaaGreat.fr
namespace Go.Proofs.YtpgjploaliefdaaGreat.fr
open Go Go.RowKit cm cw ga gr fl
set_option linter.unusedVariables false
set_option linter.unusedSimpArgs false
set_option maxRecDepth 100000 in
set_option maxHeartbeats 4000000 in
theorem VA(id:Nat)(body:ByteArray)(w:World)(h1:1<=id)(h2:id<=127)(hs:body.size<100000000000):
  Calls Tryz.prog 68 #[.int .i64 id,.string body] w λe w'=>e=.returned (.tuple #[.string (fF id body),.int .i64 0])/\Below w.heap.size w w':=by
 have hw8:IntKind.u8.wrap (id:Int)=(id:Int):=II _ (by omega)
 have hw64:IntKind.u64.wrap (body.size:Int)=(body.size:Int):=Am _ (by omega)
 have hbig:¬127<(id:Int):=by omega
 have hcv:∀(n:Nat)(W':World),W'.cell? ⟨n,0,none⟩=some (.int .u8 (id:Int))->(convert 91 9 (.slice (some ⟨n,0,none⟩) 1 1)).run Tryz.prog W'=.ok (.string (aG [id])) W':=λn W' h=>OU _ id _ h
 have hAs:(aG [id]).size=1:=aF _
 have hBs:(aG (aW body.size)).size<=10:=by rw[aF];exact aX (by omega)
 have HF:Hid (fF id body=oN id body++jM (iR (aQ (oN id body)))):=Lib.hid rfl
 have HH:Hid (oN id body=aG [id]++aG (aW body.size)++body):=Lib.hid rfl
 have HP:=Lib.hid (wJ body.size)
 generalize aG [id]=A at*
 generalize aG (aW body.size)=B at*
 have Vq:=gI A B (by omega)
 have ad2:=gI (A++B) body (by simp;omega)
 have hHs:(A++B++body).size<=maxLen:=by unfold maxLen;simp;omega
 have hS:=zq (aQ (A++B++body)) (c:=0) (by omega) (nD _)
 change iR (aQ (A++B++body))<_ at hS
 generalize hX:iR (aQ (A++B++body))=X at*
 have HX:=Lib.hid hX
 have HZ:=Lib.hid (Rk X)
 have hZs:(jM X).size=4:=by unfold jM;rw[aF];simp[le4]
 have HF2:Hid (fF id body=A++B++body++jM X):=Lib.hid (by rw[HF.out,HH.out,hX])
 clear hX HF HH
 generalize jM X=Z at*
 have ad3:=gI (A++B++body) Z (by simp;omega)
 go_enter Tryz.func68,Tryz.ntmps68
 go_wp2_with fail
 go_region_with
  (first
   |(go_at_call 36;refine(HP.out _ (by omega)).mono ?_;rintro e w1 ⟨rfl,k1⟩;obtain⟨k1c,k1f⟩:=vF k1;have k1z:=k1.size))
 all_goals
  clear hcv HP Vq ad2
  go_wp2_with fail
  refine(Vz _ _ hHs).mono ?_
  rintro e w2 ⟨rfl,rfl⟩
  rw[HX.out]
  go_wp2_with fail
  refine(HZ.out _ hS).mono ?_
  rintro e w3 ⟨rfl,k3⟩
  go_wp2_with fail
  go_ret2
  exact⟨by rw[HF2.out];rfl,by exact bm⟩
theorem VB(id:Int)(body:ByteArray)(w:World)(h:id<1\/127<id):
  Calls Tryz.prog 68 #[.int .i64 id,.string body] w λe w'=>e=.returned (.tuple #[.string ⟨#[]⟩,.int .i64 1])/\Below w.heap.size w w':=by
 by_cases h1:id<1
 ·go_enter Tryz.func68,Tryz.ntmps68
  go_wp2_with fail
  all_goals first|(exfalso;omega)|(go_ret2;exact⟨rfl,by exact bm⟩)
 ·have h2:127<id:=by omega
  have h3:1<=id:=by omega
  go_enter Tryz.func68,Tryz.ntmps68
  go_wp2_with fail
  all_goals first|(exfalso;omega)|(go_ret2;exact⟨rfl,by exact bm⟩)
set_option maxRecDepth 100000 in
set_option maxHeartbeats 4000000 in
theorem Ro(v:Value)(fs:List OV)(w:World)(hv:fH 2 lI w v fs)(hl:fs.length<=10000)(hs:∀f∈fs,f.2.size<=100000)(h63:∀f∈fs,-9223372036854775808<=f.1/\f.1<9223372036854775808):
  Calls Tryz.prog 38 #[v] w λe w'=>e=.returned (.tuple #[.string (eH fs).1,.int .i64 (eH fs).2])/\Below w.heap.size w w':=by
 obtain⟨ad,b,off,cap,rfl,h1,h2,h3,h4,h5,hin⟩:=hv.form
 have HV:=Lib.hid hin
 clear hv hin
 have HS:=Lib.hid hs
 have H63:=Lib.hid h63
 clear hs h63
 have HJ:Hid (eH fs=if∀f∈fs,pz f then(⟨(iC fs).toArray⟩,0)else(⟨#[]⟩,1)):=Lib.hid rfl
 go_enter Tryz.func38,Tryz.ntmps38
 go_wp2_with fail
 go_loopw [4,5] (λo i wr=>∃(k:Nat)(A:ByteArray),k<=fs.length/\o=.string A/\i=.int .i64 k/\Hid (∀j,j<k->pz (fs.getD j (0,⟨#[]⟩)))/\Hid (A=⟨(iC (fs.take k)).toArray⟩)/\A.size<=k*100015/\Hid (Below w.heap.size w wr)) (λ_ i _=>fs.length-(intOf i).toNat)
 case atStart=>exact⟨0,⟨#[]⟩,Nat.zero_le _,rfl,rfl,Lib.hid (λj hj=>absurd hj (by omega)),Lib.hid rfl,Nat.le_of_eq rfl,Lib.hid (by exact bm)⟩
 case round=>
  obtain⟨k,A,hk,rfl,rfl,hok,hA,hlen,hb⟩:=hrel
  by_cases hlk:k<fs.length
  ·obtain rfl:=h1 (by omega)
   have hx:fs[k]? =some (fs.getD k (0,⟨#[]⟩)):=by simp[List.getD,hlk]
   have hmem:fs.getD k (0,⟨#[]⟩)∈fs:=by simp[List.getD,hlk]
   have hsz:=HS.out _ hmem
   obtain⟨i1,i2⟩:=H63.out _ hmem
   have e0:=ah hb.out (HV.out.at hx 0 _ rfl)
   have e1:=ah hb.out (HV.out.at hx 1 _ rfl)
   rw[Nat.add_zero]at e0
   have hlt:=h5 (by omega)
   have hsn:=Lib.hid (Ez fs k hlk)
   have hbad:Hid (¬pz (fs.getD k (0,⟨#[]⟩))->eH fs=(⟨#[]⟩,1)):=Lib.hid (λh=>by rw[HJ.out,if_neg (λh2=>h (h2 _ hmem))])
   have hnext:Hid (pz (fs.getD k (0,⟨#[]⟩))->∀j,j<k+1->pz (fs.getD j (0,⟨#[]⟩))):=Lib.hid (λh j hj=>by
    by_cases e:j=k
    ·rw[e];exact h
    ·exact hok.out j (by omega))
   clear hx hmem hok
   generalize fs.getD k (0,⟨#[]⟩)=f at*
   obtain⟨id,body⟩:=f
   dsimp only at*
   by_cases hid:1<=id/\id<=127
   ·obtain⟨n,rfl⟩:=Int.eq_ofNat_of_zero_le (show 0<=id by omega)
    have HP:=Lib.hid (λW=>VA n body W (by omega) (by omega) (by omega))
    have hfs:=Ce n body (by omega)
    have X8:Hid ((⟨(iC (fs.take (k+1))).toArray⟩:ByteArray)=A++fF n body):=Lib.hid (by
     rw[hsn.out,hA.out]
     apply ByteArray.ext
     simp[iQ])
    have hnx:=Lib.hid (hnext.out hid)
    clear hsn hbad hnext hA
    generalize fF n body=S at*
    have Vq:=gI A S (by omega)
    have hL:(A++S).size<=(k+1)*100015:=by simp;omega
    generalize hAS:A++S=AS at*
    clear hAS
    go_wp2_with fail
    go_region_with
     (first
      |(go_at_call 68;refine(HP.out _).mono ?_;rintro e' w1 ⟨rfl,k1⟩))
    all_goals
     have hb1:Hid (Below w.heap.size w w1):=Lib.hid (by have:=hb.out;exact bm)
     clear k1 hb HP
     go_wp2_with fail
     exact⟨⟨k+1,AS,by omega,rfl,by go_num,hnx,Lib.hid X8.out.symm,hL,hb1⟩,by simp[intOf];omega⟩
   ·have HB:=Lib.hid (hbad.out hid)
    have HP:=Lib.hid (λW=>VB id body W (by omega))
    clear hsn hbad hnext
    go_wp2_with fail
    go_region_with
     (first
      |(go_at_call 68;refine(HP.out _).mono ?_;rintro e' w1 ⟨rfl,k1⟩))
    all_goals
     have hb1:Hid (Below w.heap.size w w1):=Lib.hid (by have:=hb.out;exact bm)
     clear k1
     go_wp2_with fail
     go_ret2
     exact⟨by rw[HB.out];rfl,hb1.out⟩
  ·obtain rfl:k=fs.length:=by omega
   rw[List.take_length]at hA
   have HR:Hid (eH fs=(A,0)):=Lib.hid (by
    rw[HJ.out,if_pos,hA.out]
    intro f hf
    obtain⟨i,hi,rfl⟩:=List.getElem_of_mem hf
    have:=hok.out i hi
    simpa [List.getD,hi]using this)
   go_wp2_with fail
   go_ret2
   exact⟨by rw[HR.out];rfl,hb.out⟩
end Go.Proofs.YtpgjploaliefdaaGreat.fr
