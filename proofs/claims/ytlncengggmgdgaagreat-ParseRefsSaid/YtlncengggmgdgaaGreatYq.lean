/- ParseRefs, walked. LONE=M. No conditions. -/
import Derived.Test.YtlncengggmgdgaaGreatG22
import Derived.Test.YtlncengggmgdgaaGreatG35
import Derived.Test.YtlncengggmgdgaaGreatYp
set_option linter.unusedVariables false
set_option linter.unusedSimpArgs false
set_option maxRecDepth 100000
namespace Go.Proofs.YtlncengggmgdgaaGreat.aw
open Go Go.RowKit gr hd lx ob
open fr (bM dL iT dN iZ)
open ps
open cw (au)
open im (iy zQ lu Lr)
attribute [local irreducible] par.ah
set_option maxHeartbeats 4000000
theorem Uy(c n:Int)(w:World)(hn:1<=n)(hn2:n<100000)(h1: -9223372036854775808<=c)(h2:c<9223372036854775808):
  Calls (par.ah par.Hm) 13 #[.int .i64 c,.int .i64 n] w λe w'=>(∃r:Int,0<=r/\r<n/\e=.returned (.int .i64 r))/\w=w':=by
 by_cases h:c<0
 ·have he:Int.tmod (-(c+1)) n=(-(c+1))%n:=Int.tmod_eq_emod_of_nonneg (by omega)
  go_enter (par.WE (H:=par.Hm)),Tryz.ntmps13
  go_wp2
  go_ret
  exact⟨⟨_,Int.emod_nonneg _ (by omega),Int.emod_lt_of_pos _ (by omega),by rw[<-he];rfl⟩,rfl⟩
 ·have he:Int.tmod c n=c%n:=Int.tmod_eq_emod_of_nonneg (by omega)
  go_enter (par.WE (H:=par.Hm)),Tryz.ntmps13
  go_wp2
  go_ret
  exact⟨⟨_,Int.emod_nonneg _ (by omega),Int.emod_lt_of_pos _ (by omega),rfl⟩,rfl⟩
theorem YF{α:Type}{k:Nat}{en:α->List Value}{W:World}{ad:Option Addr}{n cap:Nat}{zs:List α}(h:jc k en W (.slice ad n cap) zs){j:Nat}(hj:j<=n):jc k en W (.slice ad j cap) (zs.take j):=by
 obtain⟨ad',b,off,cap',e,h1,h2,h3,h4,h5,h6⟩:=h.form
 injection e with e1 e2 e3
 subst e1 e2 e3
 have hl:(zs.take j).length=j:=by rw[List.length_take];omega
 refine jc.mk (b:=b) (off:=off) (by rw[hl]) (λh=>h1 (by omega)) h2 (by omega) h4 (λh=>h5 (by omega)) λi x y v hy hv=> ?_
 rcases Nat.lt_or_ge i j with hi|hi
 ·rw[List.getElem?_take,if_pos hi]at hy
  have h7:=h1 (by have:=(List.getElem?_eq_some_iff.1 hy).1;omega)
  subst h7
  exact h6.at hy x v hv
 ·rw[List.getElem?_take,if_neg (by omega)]at hy
  cases hy
theorem Uz(v0:Value)(l:List Int)(at_ w0:Int)(w:World)(hv:jc 1 nH w v0 l)(hl:∀x∈l,0<=x/\x<18446744073709551616)(ha: -9223372036854775808<=at_/\at_<9223372036854775808)(hw:0<=w0/\w0<18446744073709551616):
  Calls (par.ah par.Hm) 4 #[v0,.int .i64 at_,.int .u64 w0] w λe w'=>e=.returned (.bool true)/\Below w.heap.size w w':=by
 have HAW:=Lib.hid λW=>Lp W
 have HRF:=Lib.hid λ(x:Int)W h1 h2=>Oe x W h1 h2
 have HL:=Lib.hid hl
 have HWW:=Lib.hid (ahl l)
 have HLEN:=Lib.hid (abE l)
 have HSN:=Lib.hid λk h1 h2=>YC l (k:=k) h1 h2
 obtain⟨ad,b,off,cap,rfl,q1,q2,q3,q4,q5,q6⟩:=hv.form
 have HV:=Lib.hid q6
 clear q6 hv hl
 have HRR:=Lib.hid (YD (QJ l) HWW.out)
 have uY:=Lib.hid λk hk=>Ux (QJ l) HWW.out k hk
 have hss:=OW (QJ l) HWW.out
 have HSM:Hid (Small (QJ l)):=λi=>by
  rcases Nat.lt_or_ge i (QJ l).length with h|h
  ·rw[List.getD_eq_getElem?_getD,List.getElem?_eq_getElem h]
   exact(HWW.out _ (List.getElem_mem h)).in
  ·rw[List.getD_eq_getElem?_getD,List.getElem?_eq_none h]
   decide
 obtain⟨gv,hg0,hg1,hg2⟩:=YE w0 hw.1 hw.2
 have HG:=Lib.hid (OV gv hg1 hg2)
 generalize(⟨(iy (QJ l)).toArray⟩:ByteArray)=S at*
 generalize QJ l=ws at*
 generalize hn:l.length=n at*
 go_enter (par.WC (H:=par.Hm)),Tryz.ntmps4
 go_wp2_with fail
 refine(HAW.out _).mono ?_;rintro e w1 ⟨rfl,k1,hz1⟩
 have hsz1:=k1.size
 go_wp2_with fail
 go_loopw [8,9] (λu i wr=>∃k:Nat,k<=ws.length/\i=.int .i64 k/\Hid (aX 24 1 nH wr w1.heap.size u (ws.take k))/\Hid (Below w1.heap.size w1 wr)) (λ_ i _=>n-(intOf i).toNat)
 case atStart=>exact⟨0,Nat.zero_le _,rfl,Lib.hid (aX.nil _ _),Lib.hid (Below.refl _ _)⟩
 case round=>
  obtain⟨k,hk,rfl,ho,hb⟩:=hrel
  have hlen:=HLEN.out
  by_cases hlk:k<ws.length
  ·obtain rfl:=q1 (by omega)
   have hbl:=q5 (by omega)
   have hkn:k<n:=by omega
   have ajZ:k<20:=by omega
   have hx:l[k]? =some (l.getD k 0):=by simp[List.getD,show k<l.length by omega]
   have x1:=aJ (aP k1 hb.out) (HV.out.at hx 0 _ rfl)
   rw[Nat.mul_one,Nat.add_zero]at x1
   have hsn:=Lib.hid (HSN.out k (by omega) ajZ)
   have hxb:=HL.out _ (List.mem_of_getElem? hx)
   have hll:(ws.take k).length+1<100000000000:=by rw[List.length_take];omega
   have ahi:b<wr.heap.size:=Nat.lt_of_lt_of_le hbl (aP k1 hb.out).size
   have hs2:=hb.out.size
   generalize l.getD k 0=x at*
   generalize ws.take k=done at*
   have HR:=Lib.hid λW=>HRF.out (x/2) W (by omega) (by omega)
   have hE:um (x/2)=0\/(um (x/2)=1/\uj (x/2)=0):=by unfold um uj;split<;>simp
   generalize uj (x/2)=V at*
   generalize um (x/2)=E at*
   rcases hE with rfl|⟨rfl,rfl⟩
   ·go_wp2_with fail
    refine(HR.out _).mono ?_;rintro e ww ⟨rfl,rfl⟩
    go_wp2_with (at_builtin;refine rY _ rfl _ _ rfl w1.heap.size _ _ done [V] rfl rfl ?d0 ?d1 hll ?d3 ?d4)
    case d0=>exact ho.out.tr bm
    case d1=>exact lD _ V _ rfl _ rfl
    case d3=>(try simp);omega
    case d4=>
    intro v' w4 uS hg hat
    have H2:Hid (aX 24 1 nH w4 w1.heap.size v' (ws.take (k+1))):=Lib.hid (by rw[hsn.out];exact uS)
    have H3:Hid (Below w1.heap.size w1 w4):=Lib.hid (dF hg (eG hb.out (Nat.le_refl _) _) (Nat.le_refl _) ho.out.block)
    clear uS hg hat ho hb
    go_wp2_with fail
    exact⟨⟨k+1,by omega,by go_num,H2,H3⟩,by simp[intOf];omega⟩
   ·go_wp2_with fail
    refine(HR.out _).mono ?_;rintro e ww ⟨rfl,rfl⟩
    go_wp2_with (at_builtin;refine rY _ rfl _ _ rfl w1.heap.size _ _ done [0] rfl rfl ?d0 ?d1 hll ?d3 ?d4)
    case d0=>exact ho.out.tr bm
    case d1=>exact lD _ (0:Int) _ rfl _ rfl
    case d3=>(try simp);omega
    case d4=>
    intro v' w4 uS hg hat
    have H2:Hid (aX 24 1 nH w4 w1.heap.size v' (ws.take (k+1))):=Lib.hid (by rw[hsn.out];exact uS)
    have H3:Hid (Below w1.heap.size w1 w4):=Lib.hid (dF hg (eG hb.out (Nat.le_refl _) _) (Nat.le_refl _) ho.out.block)
    clear uS hg hat ho hb
    go_wp2_with fail
    exact⟨⟨k+1,by omega,by go_num,H2,H3⟩,by simp[intOf];omega⟩
  ·obtain rfl:k=ws.length:=by omega
   have ho2:=ho.out
   rw[List.take_length]at ho2
   have HO:=Lib.hid ho2
   clear ho ho2
   have hc:(ws.length<n/\¬(ws.length:Int)<20)\/¬ws.length<n:=by omega
   have hw5:ws.length<=20:=by omega
   clear hlen hlk hk
   go_upto_region 4 with(fail)
   go_cut [33] (λv wx=>v=.bool false/\wr=wx)
   case first=>
    rcases hc with⟨hkn,h20⟩|hkn
    ·go_wp2_with fail
     go_meet
     exact⟨rfl,rfl⟩
    ·go_wp2_with fail
     go_meet
     exact⟨rfl,rfl⟩
   case rest=>
   obtain⟨rfl,hww⟩:=hcut
   subst hww
   have hz2:0<wr.heap.size:=Nat.lt_of_lt_of_le hz1 hb.out.size
   have HN:=Lib.hid (Qs (HO.out.sees aN) hz2 (by omega))
   have ahm:Hid (Calls (par.ah par.Hm) 26 #[u8] wr λe w'=>e=.returned (.tuple #[.string S,.int .i64 0])/\Below wr.heap.size wr w'):=Lib.hid (by
    have h:=Lr u8 ws wr HN.out HSM.out (by omega)
    rw[HRR.out]at h
    exact h)
   obtain⟨ua,uc,eu,hu1,hu2,hu3,hu4⟩:=HO.out.form aN
   subst eu
   go_wp2_with fail
   refine ahm.out.mono ?_;rintro e w2 ⟨rfl,k2⟩
   have b2:Below w1.heap.size w1 w2:=aP hb.out k2
   have O2:=Lib.hid (HO.out.tr k2)
   clear k2 hb HO ahm HN
   obtain⟨qn,hq1,hq2⟩:=uY.out ws.length (Nat.le_refl _)
   obtain rfl:=hq2 rfl
   have HT1:=Lib.hid λW=>jY S 0 ws.length W (by omega) (Nat.zero_le _) (by omega)
   rw[hq1,List.take_length]at HT1
   clear hq1 hq2
   go_wp2_with fail
   refine(HT1.out _).mono ?_;rintro e w3 ⟨k3,g3,rfl,o3⟩
   have b3:Below w1.heap.size w1 w3:=aP b2 k3
   have O3:=Lib.hid (O2.out.tr k3)
   have G3:=Lib.hid (o3.sees aN)
   obtain⟨ga,gc,eg,-⟩:=o3.form aN
   subst eg
   clear k3 b2 O2 o3 HT1
   have hk1:IntKind.i64.wrap ((ws.length:Int)+1)=((ws.length+1:Nat):Int):=by rw[kL _ (by omega)];omega
   have HPK:=Lib.hid λW=>Uy at_ ((ws.length+1:Nat):Int) W (by omega) (by omega) ha.1 ha.2
   go_wp2_with fail
   refine(HPK.out _).mono ?_;rintro e ww ⟨⟨r,r1,r2,rfl⟩,rfl⟩
   obtain⟨j,rfl⟩:=Int.eq_ofNat_of_zero_le r1
   have hj:j<=ws.length:=by omega
   obtain⟨qj,hj1,-⟩:=uY.out j hj
   have HT2:=Lib.hid λW=>jY S 0 j W (by omega) (Nat.zero_le _) (by omega)
   rw[hj1]at HT2
   clear hj1 r1 r2 hk1 HPK
   go_wp2_with fail
   refine(HT2.out _).mono ?_;rintro e w4 ⟨k4,g4,rfl,o4⟩
   have b4:Below w1.heap.size w1 w4:=aP b3 k4
   have O4:=Lib.hid (O3.out.tr k4)
   replace G3:=Lib.hid (G3.out.tr k4)
   have G4:=Lib.hid (o4.sees aN)
   obtain⟨fa,fc,ef,-⟩:=o4.form aN
   rw[List.length_take,Nat.min_eq_left hj]at ef
   subst ef
   clear k4 b3 O3 o4 HT2
   have HPU:=Lib.hid λW=>iT (HC:=par.Hm) gv W hg2
   have hgz:(dL (bM gv)).size<=10:=by rw[dN];exact iZ hg2
   have HT3:=Lib.hid λW=>jY (dL (bM gv)) 0 1 W (by omega) (Nat.zero_le _) (by omega)
   rw[fr.iQ (fl.By.bM _),HG.out]at HT3
   generalize dL (bM gv)=GS at*
   go_wp2_with fail
   refine(HPU.out _).mono ?_;rintro e w5 ⟨rfl,k5⟩
   go_wp2_with fail
   refine(HT3.out _).mono ?_;rintro e w6 ⟨k6,rfl⟩
   have b6:Below w1.heap.size w1 w6:=aP (aP b4 k5) k6
   replace O4:=Lib.hid ((O4.out.tr k5).tr k6)
   replace G3:=Lib.hid ((G3.out.tr k5).tr k6)
   replace G4:=Lib.hid ((G4.out.tr k5).tr k6)
   clear k5 k6 b4 HPU HT3 hgz
   have P4:=Lib.hid (O4.out.sees aN)
   have P5:=Lib.hid (YF P4.out hj)
   have hj2:(j:Int)<=(uc:Int):=by omega
   go_wp2_with fail
   refine(je _ _ ws _ G3.out P4.out (by omega)).mono ?_;rintro e w7 ⟨rfl,k7⟩
   go_wp2_with fail
   have hjl:(ws.take j).length<1000000000000:=by rw[List.length_take];omega
   refine(je _ _ (ws.take j) _ (G4.out.tr k7) (P5.out.tr k7) hjl).mono ?_;rintro e w8 ⟨rfl,k8⟩
   have b8:Below w.heap.size w w8:=aP k1 (aP (aP b6 k7) k8)
   go_wp2_with fail
   go_ret
   exact⟨rfl,b8⟩
end Go.Proofs.YtlncengggmgdgaaGreat.aw
