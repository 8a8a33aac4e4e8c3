/- The document's answers, layers 1 and 2: Put, Take; bytes, PutHalf. LONE=1. No conditions. -/
import Derived.Test.YtlncengggmgdgaaGreatG18
import Derived.Test.YtlncengggmgdgaaGreatG30
import Derived.Deep.RegionWith
import Derived.Deep.RegionHeld3
set_option linter.unusedVariables false
set_option linter.unusedSimpArgs false
set_option maxRecDepth 100000
namespace Go.Proofs.YtlncengggmgdgaaGreat.fr
open Go Go.RowKit cm cw ga gr fl
variable {HC : Code}
attribute [local irreducible] par.ah
theorem xO(a b:List Nat):dL (a++b)=dL a++dL b:=by
 apply ByteArray.ext
 apply Array.toList_inj.1
 simp[dL,strOfNums]
theorem Ul(a:Nat)(b:List Nat):dL (a::b)=dL [a]++dL b:=xO [a] b
set_option maxHeartbeats 4000000 in
theorem iT:∀(v:Nat)(w:World),v<18446744073709551616->
  Calls (par.ah HC) 27 #[.int .u64 v] w λe w'=>e=.returned (.string (dL (bM v)))/\Below w.heap.size w w':=by
 intro v
 induction v using Nat.strongRecOn with
 |ind v ih=>
  intro w hv
  by_cases h:v<128
  ·have hw8:IntKind.u8.wrap (v:Int)=(v:Int):=Qk _ (by omega)
   have hcv:∀(n:Nat)(W':World),W'.cell? ⟨n,0,none⟩=some (.int .u8 (v:Int))->(convert 92 9 (.slice (some ⟨n,0,none⟩) 1 1)).run (par.ah HC) W'=.ok (.string (dL [v])) W':=λn W' h=>XZ _ v _ h
   have HE:=Lib.hid (nV h)
   have h128:(v:Int)<128:=by omega
   clear ih
   go_enter (par.WH (H:=HC)),Tryz.ntmps27
   go_wp2_with fail
   go_ret
   exact⟨by rw[HE.out];rfl,by exact bm⟩
  ·have HE:Hid (dL (bM v)=dL [v%128+128]++dL (bM (v/128))):=Lib.hid (by rw[qm h,Ul])
   obtain⟨y,hy⟩:∃y,y=v%128+128:=⟨_,rfl⟩
   rw[<-hy]at HE
   have hcv:∀(n:Nat)(W':World),W'.cell? ⟨n,0,none⟩=some (.int .u8 (y:Int))->(convert 92 9 (.slice (some ⟨n,0,none⟩) 1 1)).run (par.ah HC) W'=.ok (.string (dL [y])) W':=λn W' h=>XZ _ y _ h
   have IH:=Lib.hid (λW=>ih (v/128) (by omega) W (by omega))
   have hi:((v/128:Nat):Int)=(v:Int)/128:=by omega
   rw[hi]at IH
   have hB:(dL (bM (v/128))).size<=10:=by rw[dN];exact iZ (by omega)
   have hA:(dL [y]).size=1:=dN _
   generalize dL (bM (v/128))=B at*
   generalize dL [y]=A at*
   have ad1:=kC (HC:=HC) A B (by omega)
   have hyi:(v:Int)%128+128=(y:Int):=by omega
   have hwy:IntKind.u8.wrap (y:Int)=(y:Int):=Qk _ (by omega)
   have htm:(v:Int).tmod 128=(v:Int)%128:=Int.tmod_eq_emod_of_nonneg (by omega)
   have amv:IntKind.u64.wrap ((v:Int).tmod 128+128)=(y:Int):=by rw[htm,mZ _ (by omega)];omega
   have hwd:IntKind.u64.wrap ((v:Int)/128)=(v:Int)/128:=mZ _ (by omega)
   clear htm
   have h128:¬(v:Int)<128:=by omega
   clear ih hy hyi hi
   go_enter (par.WH (H:=HC)),Tryz.ntmps27
   go_wp2_with fail
   go_region_with
    (first
     |(go_at_call 27;refine(IH.out _).mono ?_;rintro e w1 ⟨rfl,k1⟩;obtain⟨k1c,k1f⟩:=Fa k1;have k1z:=k1.size))
   all_goals
    go_wp2_with fail
    go_ret
    exact⟨by rw[HE.out];rfl,by exact bm⟩
theorem qw(x n:Nat)(w:World)(hn:n<=8)(hx:x<18446744073709551616)(h0:0<n):
  Calls (par.ah HC) 98 #[.int .u64 x,.int .i64 n] w λe w'=>e=.returned (.string (dL (leB n x)))/\Below w.heap.size w w':=by
 go_enter (par.adP (H:=HC)),Tryz.ntmps98
 go_wp2_with fail
 go_loopw [5,6] (λb i wr=>∃k:Nat,k<=n/\i=.int .i64 k/\Hid (OwnB wr w.heap.size b (leB k x))/\Hid (Below w.heap.size w wr)) (λ_ i _=>n-(intOf i).toNat)
 case atStart=>exact⟨0,Nat.zero_le _,rfl,Lib.hid (OwnB.nil _ _),Lib.hid (Below.refl _ _)⟩
 case round=>
  obtain⟨k,hk,rfl,ho,hb⟩:=hrel
  by_cases hlk:k<n
  ·have HQ:=Lib.hid (wY k x)
   have hq:x/256^k<18446744073709551616:=Nat.lt_of_le_of_lt (Nat.div_le_self _ _) hx
   have hdiv:(x:Int)/2^(8*k)=((x/256^k:Nat):Int):=by
    have hp:(256:Nat)^k=2^(8*k):=by rw[Nat.pow_mul]
    rw[hp];push_cast;rfl
   have HLL:=Lib.hid (tJ k x)
   generalize x/256^k=Q at*
   obtain⟨y,hy⟩:∃y,y=Q%256:=⟨_,rfl⟩
   rw[<-hy]at HQ
   have htm:(Q:Int).tmod 256=(y:Int):=by rw[Int.tmod_eq_emod_of_nonneg (by omega)];omega
   have hy8:IntKind.u8.wrap (y:Int)=(y:Int):=Qk _ (by omega)
   have hk8:IntKind.i64.wrap (8*(k:Int))=((8*k:Nat):Int):=by rw[kL _ (by omega)];omega
   clear hy
   have hbs:=hb.out.size
   generalize leB k x=L at*
   go_wp2_with (at_builtin;refine Fg _ rfl _ _ rfl w.heap.size _ L y wr.heap.size 1 rfl rfl ?c0 ?c1 ?c2 ?c3 ?c4)
   case c0=>exact ho.out.tr (by exact bm)
   case c1=>simp[qH]
   case c2=>have:=HLL.out;omega
   case c3=>simp;omega
   case c4=>
   intro v' w2 ho2 hg hat
   have H2:Hid (OwnB w2 w.heap.size v' (leB (k+1) x)):=Lib.hid (by rw[HQ.out];exact ho2)
   have H3:Hid (Below w.heap.size w w2):=Lib.hid (grown_below hg (mg hb.out (Nat.le_refl _) _) (Nat.le_refl _) ho.out.block)
   clear ho2 hg hat
   go_wp2_with fail
   exact⟨⟨k+1,by omega,by go_num,H2,H3⟩,by simp[intOf];omega⟩
  ·obtain rfl:k=n:=by omega
   have hs:=ho.out.str (HC:=HC) (by rw[tJ];exact h0)
   go_wp2_with fail
   go_ret
   exact⟨rfl,hb.out⟩
theorem FM(x:Nat)(w:World)(hx:x<4294967296):
  Calls (par.ah HC) 118 #[.int .u32 x] w λe w'=>e=.returned (.string (jM x))/\Below w.heap.size w w':=by
 have hw:IntKind.u64.wrap (x:Int)=(x:Int):=mZ _ (by omega)
 go_enter (par.ZT (H:=HC)),Tryz.ntmps118
 go_wp2_with fail
 refine(qw x 4 _ (by omega) (by omega) (by omega)).mono ?_;rintro e w1 ⟨rfl,hb⟩
 rw[abU]
 go_wp2_with fail
 go_ret
 exact⟨rfl,hb⟩
set_option maxHeartbeats 4000000 in
theorem Um(s:ByteArray)(at_:Nat)(w:World)(hs:s.size<1000000000000)(ha:at_<1000000000000000):
  Calls (par.ah HC) 58 #[.string s,.int .i64 at_] w λe w'=>e=.returned (jX at_ (vt 0 0 ((au s).drop at_)))/\w=w':=by
 have ia:¬(at_:Int)<0:=by omega
 generalize hR:vt 0 0 ((au s).drop at_)=R
 go_enter (par.adq (H:=HC)),Tryz.ntmps58
 go_wp2_with fail
 go_loopw [7,8,9] (λy p n wr=>∃v k:Nat,k<=9/\v<128^k/\y=.int .u64 v/\p=.int .u64 ((128^k:Nat):Int)/\n=.int .i64 k/\Hid (vt k v ((au s).drop (at_+k))=R)/\wr=w) (λ_ _ n _=>10-(intOf n).toNat)
 case atStart=>exact⟨0,0,by omega,by omega,rfl,rfl,rfl,Lib.hid hR,rfl⟩
 case round=>
  obtain⟨v,k,hk,hv,rfl,rfl,rfl,hr,rfl⟩:=hrel
  clear hR
  generalize hq:at_+k=p at*
  have h10:(k:Int)<10:=by omega
  have hsk:IntKind.i64.wrap ((s.size:Int)-(k:Int))=(s.size:Int)-(k:Int):=kL _ (by omega)
  by_cases hlp:p<s.size
  ·have hd:=nU hlp
   have hb:s[p].toNat<256:=s[p].toNat_lt
   generalize hB:s[p].toNat=b at*
   have i1:(p:Int)<(s.size:Int):=by omega
   have i2:¬(s.size:Int)-(k:Int)<=(at_:Int):=by omega
   have i3:(at_:Int)+(k:Int)=(p:Int):=by omega
   have HV:R=if(k=9/\2<=b)\/(0<k/\b=0)then .form else if b<128 then .ok (v+b*128^k) (k+1)else vt (k+1) (v+(b-128)*128^k) ((au s).drop (p+1)):=by
    rw[<-hr.out,hd,vt]
   clear hd hr
   have hPl:128^k<=9223372036854775808:=Nat.le_trans (Nat.pow_le_pow_right (by omega) hk) (by decide)
   have hP8:k<=8->128^k<=72057594037927936:=λh=>Nat.le_trans (Nat.pow_le_pow_right (by omega) h) (by decide)
   have hps:(128:Nat)^(k+1)=128*128^k:=by rw[Nat.pow_succ,Nat.mul_comm]
   by_cases hF9:k=9/\2<=b
   ·rw[if_pos (.inl hF9)]at HV
    replace HV:=Lib.hid HV
    have HF:=Lib.hid hF9
    clear hps hP8 hPl hF9
    go_wp2_with fail
    all_goals (try simp only[beq_iff_eq,beq_eq_false_iff_ne,ne_eq]at*)
    all_goals first
     |(exfalso;have:=HF.out;omega)
     |(((try simp only[Exit.inBlock,Exit.then,Exit.noGoto_ret,Exit.noGoto_normal,Exit.noGoto_exit]);refine bodyPost_ret (results_tmp3 rfl _ _ _) rfl ?_);rw[HV.out];exact⟨rfl,rfl⟩)
   ·obtain⟨m,hm⟩:∃m,m=b%128:=⟨_,rfl⟩
    have htm:(b:Int).tmod 128=(m:Int):=by rw[Int.tmod_eq_emod_of_nonneg (by omega)];omega
    have hwm:IntKind.u64.wrap (m:Int)=(m:Int):=mZ _ (by omega)
    have hm9:k=9->m<=1:=λh=>by omega
    generalize hP:128^k=P at*
    have hPm:v+P*m<18446744073709551616:=by
     rcases Nat.lt_or_ge k 9 with h|h
     ·have h1:=hP8 (by omega)
      have h2:P*m<=72057594037927936*127:=Nat.mul_le_mul h1 (by omega)
      omega
     ·have h1:=hm9 (by omega)
      have h2:P*m<=P*1:=Nat.mul_le_mul (Nat.le_refl _) h1
      omega
    obtain⟨PM,hPM⟩:∃PM,PM=P*m:=⟨_,rfl⟩
    rw[<-hPM]at hPm
    have ahc:(P:Int)*(m:Int)=(PM:Int):=by rw[hPM];push_cast;rfl
    have hmul:IntKind.u64.wrap ((P:Int)*(m:Int))=(PM:Int):=by rw[ahc];exact mZ _ (by omega)
    obtain⟨V,hV⟩:∃V,V=v+PM:=⟨_,rfl⟩
    have hadd:IntKind.u64.wrap ((v:Int)+(PM:Int))=(V:Int):=by rw[mZ _ (by omega)];omega
    have HPM:=Lib.hid hPM
    have HVV:=Lib.hid hV
    obtain⟨Q,hQ⟩:∃Q:Int,Q=IntKind.u64.wrap (128*(P:Int)):=⟨_,rfl⟩
    have ak6:IntKind.u64.wrap (128*(P:Int))=Q:=hQ.symm
    have HQQ:Hid (k<=8->Q=((128*P:Nat):Int)):=Lib.hid (λh=>by rw[hQ,mZ _ (by have:=hP8 h;omega)];push_cast;rfl)
    have HPS:=Lib.hid hps
    have HF:=Lib.hid hF9
    have HV1:Hid (b<128->V=v+b*P):=Lib.hid (λh=>by rw[hV,hPM,hm,Nat.mod_eq_of_lt h,Nat.mul_comm])
    have HV2:Hid (128<=b->V=v+(b-128)*P/\(k<=8->V<128*P)):=Lib.hid (λh=>by
     have e:m=b-128:=by omega
     rw[hV,hPM,e,Nat.mul_comm]
     refine⟨rfl,λ_=> ?_⟩
     have:(b-128)*P<=127*P:=Nat.mul_le_mul_right _ (by omega)
     omega)
    clear hps hP8 hPl hF9 hQ hPM hV hPm ahc hm hm9
    by_cases hb2:b<128
    ·by_cases hz:b=0/\0<k
     ·rw[if_pos (.inr ⟨hz.2,hz.1⟩)]at HV
      replace HV:=Lib.hid HV
      obtain⟨z1,z2⟩:=hz
      have HZ:=Lib.hid z1
      clear z1
      have ahd:(b:Int)<128:=by omega
      clear hb2
      go_wp2_with fail
      all_goals (try simp only[beq_iff_eq,beq_eq_false_iff_ne,ne_eq]at*)
      all_goals first
       |(exfalso;have:=HZ.out;have:=HF.out;omega)
       |(((try simp only[Exit.inBlock,Exit.then,Exit.noGoto_ret,Exit.noGoto_normal,Exit.noGoto_exit]);refine bodyPost_ret (results_tmp3 rfl _ _ _) rfl ?_);rw[HV.out];exact⟨rfl,rfl⟩)
     ·rw[if_neg (by rintro(h|h);exact HF.out h;exact hz ⟨h.2,h.1⟩),if_pos hb2]at HV
      replace HV:Hid (R=.ok V (k+1)):=Lib.hid (by rw[HV,HV1.out hb2])
      have HZ:=Lib.hid hz
      have ahd:(b:Int)<128:=by omega
      clear hb2 hz
      go_wp2_with fail
      all_goals (try simp only[beq_iff_eq,beq_eq_false_iff_ne,ne_eq]at*)
      all_goals first
       |(exfalso;have:=HZ.out;have:=HF.out;omega)
       |(((try simp only[Exit.inBlock,Exit.then,Exit.noGoto_ret,Exit.noGoto_normal,Exit.noGoto_exit]);refine bodyPost_ret (results_tmp3 rfl _ _ _) rfl ?_);rw[HV.out];refine⟨?_,rfl⟩;show _=Ending.returned (.tuple #[.int .u64 (V:Int),.int .i64 ((at_+(k+1):Nat):Int),.int .i64 0]);first|(rw[show((at_+(k+1):Nat):Int)=(p:Int)+1 from by omega];rfl)|(rw[show((at_+(k+1):Nat):Int)=(at_:Int)+9+1 from by omega];rfl))
       |(trace_state;fail)
    ·have hk8:k<=8:=by have:=HF.out;omega
     rw[if_neg (by rintro(h|h)<;>omega),if_neg hb2]at HV
     replace HV:Hid (R=vt (k+1) V ((au s).drop (p+1))):=Lib.hid (by rw[HV,(HV2.out (by omega)).1])
     have HN:=Lib.hid ((HV2.out (by omega)).2 hk8)
     have HQ9:=Lib.hid (HQQ.out hk8)
     have hk9:¬(k:Int)=9:=by omega
     have ahd:¬(b:Int)<128:=by omega
     clear hb2 HQQ
     go_wp2_with fail
     all_goals (try simp only[beq_iff_eq,beq_eq_false_iff_ne,ne_eq]at*)
     all_goals first
      |(exfalso;have:=HF.out;omega)
      |exact⟨⟨V,k+1,by omega,by rw[HPS.out];exact HN.out,rfl,by rw[HQ9.out,HPS.out],by go_num,by rw[show at_+(k+1)=p+1 from by omega];exact Lib.hid HV.out.symm,trivial⟩,by simp[intOf];omega⟩
      |(trace_state;fail)
  ·obtain hge:s.size<=p:=by omega
   have hd:(au s).drop p=[]:=List.drop_eq_nil_of_le (by rw[aC];omega)
   have HR:Hid (R=.short):=Lib.hid (by rw[<-hr.out,hd];rfl)
   have i2:(s.size:Int)-(k:Int)<=(at_:Int):=by omega
   clear hr hd
   go_wp2_with fail
   ((try simp only[Exit.inBlock,Exit.then,Exit.noGoto_ret,Exit.noGoto_normal,Exit.noGoto_exit]);refine bodyPost_ret (results_tmp3 rfl _ _ _) rfl ?_)
   rw[HR.out]
   exact⟨rfl,rfl⟩
end Go.Proofs.YtlncengggmgdgaaGreat.fr
namespace Go.Proofs.YtlncengggmgdgaaGreat.fr
open Go.RowKit cm cw
variable {HC : Code}
attribute [local irreducible] par.ah
theorem abt(c b:Nat)(w:World)(hc:c<4294967296)(hb:b<4294967296):
  Calls (par.ah HC) 179 #[.int .u32 (c:Int),.int .u32 (b:Int)] w λe w'=>e=.returned (.int .u32 ((gX (c^^^b):Nat):Int))/\w=w':=by
 have hx:=u32_xor_nat c b hc hb
 have hl:=ny hc hb
 generalize hi:c^^^b=i at hx hl
 clear hi
 by_cases h1:i%2=1
 ·have H:=Lib.hid (JZ h1)
  have hy:=u32_xor_nat (i/2) 3988292384 (by omega) (by omega)
  rw[show((i/2:Nat):Int)=(i:Int)/2 from by omega,show((3988292384:Nat):Int)=3988292384 from rfl]at hy
  have h2:((i:Int)%2==1)=true:=by simp;omega
  clear h1
  go_enter (par.Qc (H:=HC)),Tryz.ntmps179
  go_wp2
  go_ret
  exact SG (by rw[H.out]) rfl
 ·have H:=Lib.hid (Fe h1)
  have h2:((i:Int)%2==1)=false:=by simp;omega
  clear h1
  go_enter (par.Qc (H:=HC)),Tryz.ntmps179
  go_wp2
  go_ret
  exact SG (by rw[H.out];omega) rfl
theorem aeB(c:Nat)(x:Int)(w:World)(hc:c<4294967296)(h1:0<=x)(h2:x<4294967296):
  Calls (par.ah HC) 179 #[.int .u32 (c:Int),.int .u32 x] w λe w'=>e=.returned (.int .u32 ((gX (c^^^x.toNat):Nat):Int))/\w=w':=by
 obtain⟨k,rfl⟩:=Int.eq_ofNat_of_zero_le h1
 exact abt c k w hc (by omega)
def bst(c b k:Nat):Nat:=iter gX k (c^^^(b%2^k))
theorem Yl(c b k:Nat):bst c b (k+1)=gX (bst c b k^^^(b/2^k%2)):=by
 have e:b%2^(k+1)=(b%2^k)^^^(2^k*(b/2^k%2)):=by
  have h:=JX (b%2^(k+1)) k
  rw[Nat.mod_mod_of_dvd _ (Nat.pow_dvd_pow 2 (by omega))]at h
  rw[h];congr 1;congr 1
  rw[Nat.pow_succ,Nat.mod_mul_right_div_self]
 unfold bst
 rw[e,CU,<-Nat.xor_assoc,JU,JV]
theorem aeC(b k:Nat)(hb:b<256):∃z:Nat,(b:Int)/2^k=(z:Int)/\z=b/2^k/\z<256:=
 ⟨b/2^k,by simp,rfl,Nat.lt_of_le_of_lt (Nat.div_le_self _ _) hb⟩
theorem Un(c b:Nat)(w:World)(hc:c<4294967296)(hb:b<256):
  Calls (par.ah HC) 149 #[.int .u32 (c:Int),.int .u8 (b:Int)] w λe w'=>e=.returned (.int .u32 ((YK c b:Nat):Int))/\w=w':=by
 have HE:Hid (bst c b 8=YK c b):=by show iter gX 8 (c^^^(b%256))=ng (c^^^b);rw[Nat.mod_eq_of_lt hb];rfl
 have HL:Hid (∀k,bst c b k<4294967296):=λk=>GU k (ny hc (Nat.lt_of_le_of_lt (Nat.mod_le _ _) (by omega)))
 go_enter (par.aad (H:=HC)),Tryz.ntmps149
 go_wp2_with fail
 go_loop [5,6] (λv i=>∃k:Nat,k<=8/\i=.int .i64 k/\v=.int .u32 ((bst c b k:Nat):Int)) (λ_ i=>8-(intOf i).toNat)
 case atStart=>exact⟨0,by omega,rfl,by simp[bst,iter,Nat.mod_one]⟩
 case round=>
  obtain⟨k,hk,rfl,rfl⟩:=hrel
  by_cases hlt:k<8
  ·have HS:=Lib.hid (Yl c b k)
   have hl:=HL.out k
   generalize hq:bst c b k=q at*
   clear hq
   obtain⟨z,hz,hzd,hzl⟩:=aeC b k hb
   have HZ:=Lib.hid hzd
   clear hzd
   go_wp2_with fail
   refine(aeB q _ _ hl (by omega) (by omega)).mono ?_;rintro e w' ⟨rfl,rfl⟩
   go_wp2_with fail
   exact⟨⟨k+1,by omega,by go_num,by rw[HS.out,<-HZ.out];congr 4⟩,by simp[intOf];omega⟩
  ·obtain rfl:k=8:=by omega
   go_wp2_with fail
   go_ret
   exact⟨by rw[<-HE.out];rfl,rfl⟩
theorem Uo(c:Nat)(s:ByteArray)(w:World)(h:c<4294967296)(hs:s.size<=maxLen):
  Calls (par.ah HC) 134 #[.int .u32 (c:Int),.string s] w λe w'=>e=.returned (.int .u32 ((Fb c (au s):Nat):Int))/\w=w':=by
 unfold maxLen at hs
 have hx:=u32_xor_nat c 4294967295 h (by omega)
 rw[show((4294967295:Nat):Int)=4294967295 from rfl]at hx
 have hct:c^^^4294967295=c^^^top32:=by unfold top32;rfl
 rw[hct]at hx
 have hc0:c^^^top32<4294967296:=ny h (by unfold top32;omega)
 have HM:Hid (Fb c (au s)=jV (c^^^top32) (au s)^^^top32):=rfl
 generalize hg:c^^^top32=c0 at hx hc0 HM
 clear hg hct
 have hend:=u32_xor_nat (jV c0 (au s)) 4294967295 (rO _ hc0 (bP s)) (by omega)
 rw[show((4294967295:Nat):Int)=4294967295 from rfl]at hend
 have HE:=Lib.hid hend
 clear hend
 go_enter (par.Z5 (H:=HC)),Tryz.ntmps134
 go_wp2_with fail
 go_loop [5,6] (λv i=>∃k:Nat,k<=s.size/\i=.int .i64 k/\v=.int .u32 ((jV c0 ((au s).take k):Nat):Int)) (λ_ i=>s.size-(intOf i).toNat)
 case atStart=>exact⟨0,Nat.zero_le _,rfl,rfl⟩
 case round=>
  obtain⟨k,hk,rfl,rfl⟩:=hrel
  have hfl:jV c0 ((au s).take k)<4294967296:=rO _ hc0 (λb hb=>bP s b (List.mem_of_mem_take hb))
  by_cases hlt:k<s.size
  ·have HS:Hid (jV c0 ((au s).take (k+1))=YK (jV c0 ((au s).take k)) s[k].toNat):=by rw[zH s k hlt];exact CW _ _ _
   generalize hq:jV c0 ((au s).take k)=q at*
   clear hq
   go_wp2_with fail
   refine(Un q _ _ hfl s[k].toNat_lt).mono ?_;rintro e w2 ⟨rfl,rfl⟩
   go_wp2_with fail
   exact⟨⟨k+1,by omega,by go_num,by rw[HS.out]⟩,by simp[intOf];omega⟩
  ·obtain rfl:k=s.size:=by omega
   have ht:(au s).take s.size=au s:=List.take_of_length_le (by rw[aC];omega)
   rw[ht]
   have hE:=HE.out
   go_wp2_with fail
   go_ret
   refine⟨?_,rfl⟩
   rw[HM.out];unfold top32;rfl
theorem Lc(s:ByteArray)(w:World)(hs:s.size<=maxLen):
  Calls (par.ah HC) 119 #[.string s] w λe w'=>e=.returned (.int .u32 ((ni (au s):Nat):Int))/\w=w':=by
 go_enter (par.ZU (H:=HC)),Tryz.ntmps119
 go_wp2_with fail
 refine(Uo 0 s _ (by omega) hs).mono ?_;rintro e w2 ⟨rfl,rfl⟩
 go_wp2_with fail
 go_ret
 exact⟨rfl,rfl⟩
end Go.Proofs.YtlncengggmgdgaaGreat.fr
namespace Go.Proofs.YtlncengggmgdgaaGreat.fr
open Go Go.RowKit cm cw ga gr fl
variable {HC : Code}
attribute [local irreducible] par.ah
set_option maxHeartbeats 4000000 in
theorem Ym(id:Nat)(body:ByteArray)(w:World)(h1:1<=id)(h2:id<=127)(hs:body.size<100000000000):
  Calls (par.ah HC) 84 #[.int .i64 id,.string body] w λe w'=>e=.returned (.tuple #[.string (jD id body),.int .i64 0])/\Below w.heap.size w w':=by
 have hw8:IntKind.u8.wrap (id:Int)=(id:Int):=Qk _ (by omega)
 have hw64:IntKind.u64.wrap (body.size:Int)=(body.size:Int):=mZ _ (by omega)
 have hbig:¬127<(id:Int):=by omega
 have hcv:∀(n:Nat)(W':World),W'.cell? ⟨n,0,none⟩=some (.int .u8 (id:Int))->(convert 92 9 (.slice (some ⟨n,0,none⟩) 1 1)).run (par.ah HC) W'=.ok (.string (dL [id])) W':=λn W' h=>XZ _ id _ h
 have hAs:(dL [id]).size=1:=dN _
 have hBs:(dL (bM body.size)).size<=10:=by rw[dN];exact iZ (by omega)
 have HF:Hid (jD id body=zN id body++jM (ni (au (zN id body)))):=Lib.hid rfl
 have HH:Hid (zN id body=dL [id]++dL (bM body.size)++body):=Lib.hid rfl
 have HP:=Lib.hid (iT (HC:=HC) body.size)
 generalize dL [id]=A at*
 generalize dL (bM body.size)=B at*
 have ad1:=kC (HC:=HC) A B (by omega)
 have ad2:=kC (HC:=HC) (A++B) body (by simp;omega)
 have hHs:(A++B++body).size<=maxLen:=by unfold maxLen;simp;omega
 have hS:=CV (au (A++B++body)) (c:=0) (by omega) (bP _)
 change ni (au (A++B++body))<_ at hS
 generalize hX:ni (au (A++B++body))=X at*
 have HX:=Lib.hid hX
 have HZ:=Lib.hid (FM (HC:=HC) X)
 have hZs:(jM X).size=4:=by unfold jM;rw[dN];simp[le4]
 have HF2:Hid (jD id body=A++B++body++jM X):=Lib.hid (by rw[HF.out,HH.out,hX])
 clear hX HF HH
 generalize jM X=Z at*
 have ad3:=kC (HC:=HC) (A++B++body) Z (by simp;omega)
 go_enter (par.NR (H:=HC)),Tryz.ntmps84
 go_wp2_with fail
 go_region_with
  (first
   |(go_at_call 27;refine(HP.out _ (by omega)).mono ?_;rintro e w1 ⟨rfl,k1⟩;obtain⟨k1c,k1f⟩:=Fa k1;have k1z:=k1.size))
 all_goals
  clear hcv HP ad1 ad2
  go_wp2_with fail
  refine(Lc _ _ hHs).mono ?_
  rintro e w2 ⟨rfl,rfl⟩
  rw[HX.out]
  go_wp2_with fail
  refine(HZ.out _ hS).mono ?_
  rintro e w3 ⟨rfl,k3⟩
  go_wp2_with fail
  go_ret2
  exact⟨by rw[HF2.out];rfl,by exact bm⟩
theorem Yn(id:Int)(body:ByteArray)(w:World)(h:id<1\/127<id):
  Calls (par.ah HC) 84 #[.int .i64 id,.string body] w λe w'=>e=.returned (.tuple #[.string ⟨#[]⟩,.int .i64 1])/\Below w.heap.size w w':=by
 by_cases h1:id<1
 ·go_enter (par.NR (H:=HC)),Tryz.ntmps84
  go_wp2_with fail
  all_goals first|(exfalso;omega)|(go_ret2;exact⟨rfl,by exact bm⟩)
 ·have h2:127<id:=by omega
  have h3:1<=id:=by omega
  go_enter (par.NR (H:=HC)),Tryz.ntmps84
  go_wp2_with fail
  all_goals first|(exfalso;omega)|(go_ret2;exact⟨rfl,by exact bm⟩)
set_option maxHeartbeats 4000000 in
theorem mF(v:Value)(fs:List lX)(w:World)(hv:jc 2 jo w v fs)(hl:fs.length<=10000)(hs:∀f∈fs,f.2.size<=100000)(h63:∀f∈fs,-9223372036854775808<=f.1/\f.1<9223372036854775808):
  Calls (par.ah HC) 38 #[v] w λe w'=>e=.returned (.tuple #[.string (jq fs).1,.int .i64 (jq fs).2])/\Below w.heap.size w w':=by
 obtain⟨ad,b,off,cap,rfl,h1,h2,h3,h4,h5,hin⟩:=hv.form
 have HV:=Lib.hid hin
 clear hv hin
 have HS:=Lib.hid hs
 have H63:=Lib.hid h63
 clear hs h63
 have HJ:Hid (jq fs=if∀f∈fs,yQ f then(⟨(nG fs).toArray⟩,0)else(⟨#[]⟩,1)):=Lib.hid rfl
 go_enter (par.ade (H:=HC)),Tryz.ntmps38
 go_wp2_with fail
 go_loopw [4,5] (λo i wr=>∃(k:Nat)(A:ByteArray),k<=fs.length/\o=.string A/\i=.int .i64 k/\Hid (∀j,j<k->yQ (fs.getD j (0,⟨#[]⟩)))/\Hid (A=⟨(nG (fs.take k)).toArray⟩)/\A.size<=k*100015/\Hid (Below w.heap.size w wr)) (λ_ i _=>fs.length-(intOf i).toNat)
 case atStart=>exact⟨0,⟨#[]⟩,Nat.zero_le _,rfl,rfl,Lib.hid (λj hj=>absurd hj (by omega)),Lib.hid rfl,Nat.le_of_eq rfl,Lib.hid (by exact bm)⟩
 case round=>
  obtain⟨k,A,hk,rfl,rfl,hok,hA,hlen,hb⟩:=hrel
  by_cases hlk:k<fs.length
  ·obtain rfl:=h1 (by omega)
   have hx:fs[k]? =some (fs.getD k (0,⟨#[]⟩)):=by simp[List.getD,hlk]
   have hmem:fs.getD k (0,⟨#[]⟩)∈fs:=by simp[List.getD,hlk]
   have hsz:=HS.out _ hmem
   obtain⟨i1,i2⟩:=H63.out _ hmem
   have e0:=aJ hb.out (HV.out.at hx 0 _ rfl)
   have e1:=aJ hb.out (HV.out.at hx 1 _ rfl)
   rw[Nat.add_zero]at e0
   have hlt:=h5 (by omega)
   have hsn:=Lib.hid (OE fs k hlk)
   have hbad:Hid (¬yQ (fs.getD k (0,⟨#[]⟩))->jq fs=(⟨#[]⟩,1)):=Lib.hid (λh=>by rw[HJ.out,if_neg (λh2=>h (h2 _ hmem))])
   have hnext:Hid (yQ (fs.getD k (0,⟨#[]⟩))->∀j,j<k+1->yQ (fs.getD j (0,⟨#[]⟩))):=Lib.hid (λh j hj=>by
    by_cases e:j=k
    ·rw[e];exact h
    ·exact hok.out j (by omega))
   clear hx hmem hok
   generalize fs.getD k (0,⟨#[]⟩)=f at*
   obtain⟨id,body⟩:=f
   dsimp only at*
   by_cases hid:1<=id/\id<=127
   ·obtain⟨n,rfl⟩:=Int.eq_ofNat_of_zero_le (show 0<=id by omega)
    have HP:=Lib.hid (λW=>Ym (HC:=HC) n body W (by omega) (by omega) (by omega))
    have hfs:=KW n body (by omega)
    have ajM:Hid ((⟨(nG (fs.take (k+1))).toArray⟩:ByteArray)=A++jD n body):=Lib.hid (by
     rw[hsn.out,hA.out]
     apply ByteArray.ext
     simp[Dx])
    have hnx:=Lib.hid (hnext.out hid)
    clear hsn hbad hnext hA
    generalize jD n body=S at*
    have ad1:=kC (HC:=HC) A S (by omega)
    have hL:(A++S).size<=(k+1)*100015:=by simp;omega
    generalize hAS:A++S=AS at*
    clear hAS
    go_wp2_with fail
    go_region_with
     (first
      |(go_at_call 84;refine(HP.out _).mono ?_;rintro e' w1 ⟨rfl,k1⟩))
    all_goals
     have hb1:Hid (Below w.heap.size w w1):=Lib.hid (by have:=hb.out;exact bm)
     clear k1 hb HP
     go_wp2_with fail
     exact⟨⟨k+1,AS,by omega,rfl,by go_num,hnx,Lib.hid ajM.out.symm,hL,hb1⟩,by simp[intOf];omega⟩
   ·have HB:=Lib.hid (hbad.out hid)
    have HP:=Lib.hid (λW=>Yn (HC:=HC) id body W (by omega))
    clear hsn hbad hnext
    go_wp2_with fail
    go_region_with
     (first
      |(go_at_call 84;refine(HP.out _).mono ?_;rintro e' w1 ⟨rfl,k1⟩))
    all_goals
     have hb1:Hid (Below w.heap.size w w1):=Lib.hid (by have:=hb.out;exact bm)
     clear k1
     go_wp2_with fail
     go_ret2
     exact⟨by rw[HB.out];rfl,hb1.out⟩
  ·obtain rfl:k=fs.length:=by omega
   rw[List.take_length]at hA
   have HR:Hid (jq fs=(A,0)):=Lib.hid (by
    rw[HJ.out,if_pos,hA.out]
    intro f hf
    obtain⟨i,hi,rfl⟩:=List.getElem_of_mem hf
    have:=hok.out i hi
    simpa [List.getD,hi]using this)
   go_wp2_with fail
   go_ret2
   exact⟨by rw[HR.out];rfl,hb.out⟩
end Go.Proofs.YtlncengggmgdgaaGreat.fr
namespace Go.Proofs.YtlncengggmgdgaaGreat.fr
open Go Go.RowKit cm cw ga gr fl
variable {HC : Code}
attribute [local irreducible] par.ah
set_option maxHeartbeats 4000000 in
theorem Ur(s:ByteArray)(at_:Nat)(w:World)(hs:s.size<1000000000000)(ha:at_<9223372036854775808):
  Calls (par.ah HC) 85 #[.string s,.int .i64 at_] w λe w'=>e=.returned (KT (tk s at_))/\Below w.heap.size w w':=by
 have HT:Hid (tk s at_=match rd (au s) at_ with| .bad e=>.bad e| .ok a b n=>if zI s (Fj (a,b,n))then .ok ((au s).getD a 0) (s.extract b n) (n+4)else .bad 4):=Lib.hid rfl
 have amG:IntKind.i64.wrap ((s.size:Int)-4)=(s.size:Int)-4:=kL _ (by omega)
 by_cases hlt:at_<s.size
 ·have hd:=nU hlt
  have hB:s[at_].toNat<256:=s[at_].toNat_lt
  have hg0:(au s).getD at_ 0=s[at_].toNat:=by
   have hl:at_<(au s).length:=by rw[aC];exact hlt
   rw[List.getD,List.getElem?_eq_getElem hl]
   simp[au]
   rfl
  generalize hb:s[at_].toNat=b at*
  have i1:(at_:Int)<(s.size:Int):=by omega
  by_cases hF:b<1\/127<b
  ·have HR:Hid (tk s at_=.bad 3):=Lib.hid (by rw[HT.out];unfold rd;rw[hd];simp only[if_pos hF])
   clear hd hg0
   go_enter (par.yG (H:=HC)),Tryz.ntmps85
   go_wp2_with fail
   all_goals (try simp only[beq_iff_eq,beq_eq_false_iff_ne,ne_eq]at*)
   all_goals first|(exfalso;omega)|((try simp only[Exit.inBlock,Exit.then]);refine bodyPost_ret (v:=KT (.bad 3)) (by simp only[results,Tryz.results85,KT,Qz];go_simp) rfl ⟨by rw[HR.out],?_⟩;exact bm)
  ·have hta:=Um (HC:=HC) s (at_+1)
   have hrd:rd (au s) at_=match vt 0 0 ((au s).drop (at_+1))with| .short=>.bad 2| .form=>.bad 3| .ok v k=>if at_+1+k+v+4<=s.size then .ok at_ (at_+1+k) (at_+1+k+v)else .bad 2:=by
    unfold rd
    rw[hd]
    simp only
    rw[if_neg hF,aC]
    rfl
   have hbl:∀x∈(au s).drop (at_+1),x<256:=λx hx=>bP s x (List.mem_of_mem_drop hx)
   have hok:=λv' k=> @jl ((au s).drop (at_+1)) 0 0 v' k hbl
   have hlen:((au s).drop (at_+1)).length=s.size-(at_+1):=by simp[aC]
   generalize vt 0 0 ((au s).drop (at_+1))=R at*
   rw[show(((at_+1:Nat)):Int)=(at_:Int)+1 from by omega]at hta
   have HQ:=Lib.hid hta
   clear hd hta hbl
   have hwa:IntKind.i64.wrap ((at_:Int)+1)=(at_:Int)+1:=kL _ (by omega)
   rcases R with⟨v,k⟩|_|_
   ·obtain⟨k1,k2,k3⟩:=hok v k (by decide) (by omega) rfl
    clear hok
    rw[hlen]at k2
    clear hlen
    by_cases hP:at_+1+k+v+4<=s.size
    ·have ahe:rd (au s) at_=.ok at_ (at_+1+k) (at_+1+k+v):=by rw[hrd];simp only;rw[if_pos hP]
     have hT2:=HT.out
     rw[ahe]at hT2
     simp only at hT2
     clear hrd ahe
     obtain⟨E,hE⟩:∃E,E=at_+1+k+v:=⟨_,rfl⟩
     rw[<-hE]at hT2
     rw[hg0]at hT2
     have hGE:zI s (Fj (at_,at_+1+k,E))=(s.extract E (E+4)==jM (ni (au (s.extract at_ E)))):=by
      show(s.extract E ((E:Int)+4).toNat==_)=_
      rw[show((E:Int)+4).toNat=E+4 from by omega]
      rfl
     rw[hGE]at hT2
     have hM:((s.extract at_ E).size:Nat)<=maxLen:=by unfold maxLen;simp;omega
     have hS:=CV (au (s.extract at_ E)) (c:=0) (by omega) (bP _)
     change ni (au (s.extract at_ E))<_ at hS
     generalize hX:ni (au (s.extract at_ E))=X at*
     have HX:=Lib.hid hX
     clear hX hGE hg0
     have HZ:=Lib.hid (FM (HC:=HC) X)
     generalize hBd:at_+1+k=Bd at*
     have hb1:Bd<=s.size:=by omega
     have j1:¬(s.size:Int)-4<(Bd:Int):=by omega
     have hw5:IntKind.i64.wrap ((s.size:Int)-4-(Bd:Int))=(s.size:Int)-4-(Bd:Int):=kL _ (by omega)
     have hw6:IntKind.u64.wrap ((s.size:Int)-4-(Bd:Int))=(s.size:Int)-4-(Bd:Int):=mZ _ (by omega)
     have j2:¬(s.size:Int)-4-(Bd:Int)<(v:Int):=by omega
     have hwv:IntKind.i64.wrap (v:Int)=(v:Int):=kL _ (by omega)
     have hwE:IntKind.i64.wrap ((Bd:Int)+(v:Int))=(E:Int):=by rw[kL _ (by omega)];omega
     obtain⟨F,hFF⟩:∃F,F=E+4:=⟨_,rfl⟩
     have hwF:IntKind.i64.wrap ((E:Int)+4)=(F:Int):=by rw[kL _ (by omega)];omega
     rw[<-hFF]at hT2
     have l1:(E:Int)<=(F:Int):=by omega
     have l2:(F:Int)<=(s.size:Int):=by omega
     have l3:(at_:Int)<=(E:Int):=by omega
     have l4:(E:Int)<=(s.size:Int):=by omega
     have l5:(Bd:Int)<=(E:Int):=by omega
     have l6:(0:Int)<=(E:Int):=by omega
     have l7:(0:Int)<=(F:Int):=by omega
     have l8:(0:Int)<=(Bd:Int):=by omega
     have hwx:IntKind.i64.wrap (b:Int)=(b:Int):=kL _ (by omega)
     replace HT:=Lib.hid hT2
     clear hT2
     have HBd:=Lib.hid hBd
     clear hE hFF hBd
     go_enter (par.yG (H:=HC)),Tryz.ntmps85
     go_wp2_with fail
     all_goals (try simp only[beq_iff_eq,beq_eq_false_iff_ne,ne_eq]at*)
     all_goals first|(exfalso;omega)|skip
     refine(HQ.out _ hs (by omega)).mono ?_;rintro e ww ⟨rfl,rfl⟩
     simp only[jX]
     rw[HBd.out]
     go_wp2_with fail
     all_goals (try simp only[beq_iff_eq,beq_eq_false_iff_ne,ne_eq]at*)
     all_goals first|(exfalso;omega)|skip
     have hZs:(jM X).size=4:=by unfold jM;rw[dN];simp[le4]
     have hUs:(s.extract E F).size<=1000000000000:=by simp;omega
     generalize jM X=Z at*
     go_region_held3 (λ_=>True) (trivial)
      (first
       |(go_at_call 119;refine(Lc _ _ hM).mono ?_;rintro e w2 ⟨rfl,rfl⟩;rw[HX.out])
       |(go_at_call 118;refine(HZ.out _ hS).mono ?_;rintro e w3 ⟨rfl,k3⟩;have K3:=(aW.new w #[.int .i64 0,.string ⟨#[]⟩] 85).drew.tr k3))
     obtain⟨l4,c4,f4⟩:=K3.get
     have e0:w3.cell? ⟨w.heap.size,0,none⟩=some (.int .i64 0):=c4 0
     have e1:w3.cell? ⟨w.heap.size,1,none⟩=some (.string ⟨#[]⟩):=c4 1
     have g0:=f4 0
     have g1:=f4 1
     have hb3:Below w.heap.size w w3:=by exact bm
     clear c4 f4 K3 k3
     generalize s.extract E F=U at*
     generalize hY:s.extract Bd E=Y at*
     have hG2:=beq_toListBytes U Z
     generalize(U==Z)=G at*
     rcases G with _|_
     ·have hN:(!U.toList==Z.toList)=true:=by rw[<-hG2];rfl
      have HT3:Hid (tk s at_=.bad 4):=Lib.hid (by rw[HT.out];rfl)
      clear HT hG2
      go_wp2_with fail
      all_goals first
       |(exfalso;simp_all;done)
       |(refine bodyPost_ret (v:=KT (.bad 4)) (by simp only[results,Tryz.results85,KT,Qz];go_simp) rfl ⟨by rw[HT3.out],?_⟩;exact bm)
     ·have hN:(!U.toList==Z.toList)=false:=by rw[<-hG2];rfl
      have HT3:Hid (tk s at_=.ok b Y F):=Lib.hid (by rw[HT.out];simp)
      clear HT hG2
      go_wp2_with fail
      all_goals first
       |(exfalso;simp_all;done)
       |(refine bodyPost_ret (v:=KT (.ok b Y F)) (by simp only[results,Tryz.results85,KT,Qz];go_simp) rfl ⟨by rw[HT3.out],?_⟩;exact bm)
    ·have HR:Hid (tk s at_=.bad 2):=Lib.hid (by rw[HT.out,hrd];simp only;rw[if_neg hP])
     clear hrd
     have hb1:at_+1+k<=s.size:=by omega
     go_enter (par.yG (H:=HC)),Tryz.ntmps85
     go_wp2_with fail
     all_goals (try simp only[beq_iff_eq,beq_eq_false_iff_ne,ne_eq]at*)
     all_goals first|(exfalso;omega)|skip
     refine(HQ.out _ hs (by omega)).mono ?_;rintro e ww ⟨rfl,rfl⟩
     unfold jX
     generalize hBd:at_+1+k=Bd at*
     go_wp2_with fail
     all_goals (try simp only[beq_iff_eq,beq_eq_false_iff_ne,ne_eq]at*)
     all_goals first|(exfalso;omega)|((try simp only[Exit.inBlock,Exit.then]);refine bodyPost_ret (v:=KT (.bad 2)) (by simp only[results,Tryz.results85,KT,Qz];go_simp) rfl ⟨by rw[HR.out],?_⟩;exact bm)
   ·have HR:Hid (tk s at_=.bad 2):=Lib.hid (by rw[HT.out,hrd])
    clear hok hrd
    go_enter (par.yG (H:=HC)),Tryz.ntmps85
    go_wp2_with fail
    all_goals (try simp only[beq_iff_eq,beq_eq_false_iff_ne,ne_eq]at*)
    all_goals first|(exfalso;omega)|skip
    refine(HQ.out _ hs (by omega)).mono ?_;rintro e ww ⟨rfl,rfl⟩
    unfold jX
    go_wp2_with fail
    ((try simp only[Exit.inBlock,Exit.then]);refine bodyPost_ret (v:=KT (.bad 2)) (by simp only[results,Tryz.results85,KT,Qz];go_simp) rfl ⟨by rw[HR.out],?_⟩;exact bm)
   ·have HR:Hid (tk s at_=.bad 3):=Lib.hid (by rw[HT.out,hrd])
    clear hok hrd
    go_enter (par.yG (H:=HC)),Tryz.ntmps85
    go_wp2_with fail
    all_goals (try simp only[beq_iff_eq,beq_eq_false_iff_ne,ne_eq]at*)
    all_goals first|(exfalso;omega)|skip
    refine(HQ.out _ hs (by omega)).mono ?_;rintro e ww ⟨rfl,rfl⟩
    unfold jX
    go_wp2_with fail
    ((try simp only[Exit.inBlock,Exit.then]);refine bodyPost_ret (v:=KT (.bad 3)) (by simp only[results,Tryz.results85,KT,Qz];go_simp) rfl ⟨by rw[HR.out],?_⟩;exact bm)
 ·have HR:Hid (tk s at_=.bad 2):=Lib.hid (by
   rw[HT.out];unfold rd
   rw[List.drop_eq_nil_of_le (by rw[aC];omega)])
  go_enter (par.yG (H:=HC)),Tryz.ntmps85
  go_wp2_with fail
  all_goals (try simp only[beq_iff_eq,beq_eq_false_iff_ne,ne_eq]at*)
  all_goals first|(exfalso;omega)|((try simp only[Exit.inBlock,Exit.then]);refine bodyPost_ret (v:=KT (.bad 2)) (by simp only[results,Tryz.results85,KT,Qz];go_simp) rfl ⟨by rw[HR.out],?_⟩;exact bm)
end Go.Proofs.YtlncengggmgdgaaGreat.fr
namespace Go.Proofs.YtlncengggmgdgaaGreat.fr
open Go Go.RowKit cm cw ga gr fl
variable {HC : Code}
attribute [local irreducible] par.ah
def nC(s:ByteArray)(p:Nat):List lX×Int:=
 if(dU (au s) p).1.all (λc=>zI s (Fj c))then(if(dU (au s) p).2=0 then((dU (au s) p).1.map (yP s),0)else([],(dU (au s) p).2))else([],4)
def comb(fs:List lX)(r:List lX×Int):List lX×Int:=if r.2=0 then(fs++r.1,0)else([],r.2)
theorem aeD(s:ByteArray):gQ s=nC s 0:=rfl
theorem Yo{s:ByteArray}{p:Nat}(h:¬p<s.size):nC s p=([],0):=by
 unfold nC
 rw[jP (by rw[aC];exact h)]
 rfl
theorem Yp(s:ByteArray)(p:Nat):(nC s p).2=0\/(nC s p).1=[]:=by
 unfold nC
 split
 ·split
  ·exact .inl rfl
  ·exact .inr rfl
 ·exact .inr rfl
theorem Yq(s:ByteArray)(p:Nat):comb [] (nC s p)=nC s p:=by
 unfold comb
 rcases Yp s p with h|h
 ·rw[if_pos h,List.nil_append];exact Prod.ext rfl h.symm
 ·split
  ·rename_i h2;rw[List.nil_append];exact Prod.ext rfl h2.symm
  ·exact Prod.ext h.symm rfl
theorem Us(a b:List lX)(r:List lX×Int):comb a (comb b r)=comb (a++b) r:=by
 unfold comb
 by_cases h:r.2=0
 ·simp[h]
 ·simp[h]
theorem ahf{s:ByteArray}{p id n:Nat}{body:ByteArray}(h:tk s p=.ok id body n)(hp:p<s.size):p<n/\n<=s.size/\nC s p=comb [((id:Int),body)] (nC s n):=by
 unfold tk at h
 split at h
 ·cases h
 ·rename_i a b m hr
  split at h
  ·rename_i hg
   cases h
   obtain⟨rfl,h1,h2,h3,h4⟩:=FB hr
   rw[aC]at h4
   refine⟨by omega,h4,?_⟩
   unfold nC comb
   rw[oU (by rw[aC];exact hp) hr]
   simp only[List.all_cons,hg,Bool.true_and,List.map_cons]
   by_cases ha:(dU (au s) (m+4)).1.all (λc=>zI s (Fj c))=true
   ·rw[if_pos ha]
    by_cases h0:(dU (au s) (m+4)).2=0
    ·simp only[ha,h0,if_true];rfl
    ·simp only[ha,h0,if_true,if_false]
   ·rw[if_neg ha]
    simp[ha]
  ·cases h
theorem aeE{s:ByteArray}{p:Nat}{e:Int}(h:tk s p=.bad e)(hp:p<s.size):e≠0/\nC s p=([],e):=by
 unfold tk at h
 split at h
 ·rename_i e' hr
  cases h
  have he:=Ic hr
  refine⟨by omega,?_⟩
  unfold nC
  rw[oQ (by rw[aC];exact hp) hr]
  simp
  omega
 ·rename_i a b m hr
  split at h
  ·cases h
  ·rename_i hg
   cases h
   refine⟨by omega,?_⟩
   unfold nC
   rw[oU (by rw[aC];exact hp) hr]
   simp[hg]
set_option maxHeartbeats 8000000 in
theorem DN(s:ByteArray)(w:World)(hs:s.size<10000000000):
  Calls (par.ah HC) 39 #[.string s] w λe w'=>∃v,e=.returned (.tuple #[v,.int .i64 (gQ s).2])/\jc 2 jo w' v (gQ s).1/\Below w.heap.size w w':=by
 have HA:=Lib.hid (aeD s)
 go_enter (par.adf (H:=HC)),Tryz.ntmps39
 go_wp2_with fail
 go_loopw [4,5] (λlv at_ wr=>∃(fs:List lX)(p:Nat),p<=s.size/\at_=.int .i64 p/\fs.length<=p/\Hid (gQ s=comb fs (nC s p))/\Hid (aX 85 2 jo wr w.heap.size lv fs)/\Hid (Below w.heap.size w wr)) (λ_ at_ _=>s.size-(intOf at_).toNat)
 case atStart=>exact⟨[],0,Nat.zero_le _,rfl,Nat.zero_le _,Lib.hid (by rw[HA.out,Yq]),Lib.hid (aX.nil _ _),Lib.hid (Below.refl _ _)⟩
 case round=>
  clear HA
  obtain⟨fs,p,hp,rfl,hl,HC1,ho,hb⟩:=hrel
  by_cases hlp:p<s.size
  ·have HT:=Lib.hid (Ur (HC:=HC) s p)
   have hok:=λid body n=> @ahf s p id n body
   have hbad:=λe=> @aeE s p e
   generalize tk s p=R at*
   rcases R with⟨id,body,n⟩|e
   ·obtain⟨q1,q2,q3⟩:=hok id body n rfl hlp
    have HN:Hid (gQ s=comb (fs++[((id:Int),body)]) (nC s n)):=Lib.hid (by rw[HC1.out,q3,Us])
    clear hok hbad q3 HC1
    go_wp2_with fail
    refine(HT.out _ (by omega) (by omega)).mono ?_;rintro e' w1 ⟨rfl,k1⟩
    simp only[KT,Qz]
    have LC:Hid (aX 85 2 jo w1 w.heap.size u4 fs):=Lib.hid (ho.out.tr k1)
    have HB1:Hid (Below w.heap.size w w1):=Lib.hid (aP hb.out k1)
    clear k1 ho hb
    go_wp2_with (at_builtin;refine gU _ rfl _ _ rfl w.heap.size _ _ fs ((id:Int),body) rfl rfl ?d0 ?d1 ?d2 ?d3 ?d4)
    case d0=>exact LC.out.tr (by exact bm)
    case d1=>refine lD _ ((id:Int),body) _ rfl _ ?_;try simp
    case d2=>omega
    case d3=>have:=HB1.out.size;simp;omega
    case d4=>
    intro v' w4 uS hg hat
    have H2:Hid (aX 85 2 jo w4 w.heap.size v' (fs++[((id:Int),body)])):=Lib.hid uS
    have H3:Hid (Below w.heap.size w w4):=Lib.hid (dF hg (eG (eG HB1.out (Nat.le_refl _) _) (Nat.le_refl _) _) (Nat.le_refl _) LC.out.block)
    clear uS hg hat LC HB1
    go_wp2_with fail
    exact⟨⟨fs++[((id:Int),body)],n,q2,rfl,by simp;omega,HN,H2,H3⟩,by simp[intOf];omega⟩
   ·obtain⟨he,q3⟩:=hbad e rfl hlp
    have HR:Hid (gQ s=([],e)):=Lib.hid (by rw[HC1.out,q3];unfold comb;rw[if_neg he])
    clear hok hbad q3 HC1
    have he0:¬e=0:=he
    clear he
    go_wp2_with fail
    refine(HT.out _ (by omega) (by omega)).mono ?_;rintro e' w1 ⟨rfl,k1⟩
    simp only[KT,Qz]
    have HB1:Hid (Below w.heap.size w w1):=Lib.hid (aP hb.out k1)
    clear k1 ho hb
    go_wp2_with fail
    go_ret2
    exact⟨_,by rw[HR.out];rfl,by rw[HR.out];exact jc.nil,by have:=HB1.out;exact bm⟩
  ·obtain rfl:p=s.size:=by omega
   have HR:Hid (gQ s=(fs,0)):=Lib.hid (by rw[HC1.out,Yo (by omega)];unfold comb;simp)
   go_wp2_with fail
   go_ret2
   exact⟨_,by rw[HR.out];rfl,by rw[HR.out];exact ho.out.sees (λ_=>rfl),hb.out⟩
end Go.Proofs.YtlncengggmgdgaaGreat.fr
