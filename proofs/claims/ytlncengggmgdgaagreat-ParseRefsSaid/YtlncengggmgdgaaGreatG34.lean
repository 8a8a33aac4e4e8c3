/- awake of the parse laws: the document's layers 11 (Right, Objects) and 18 (Refs, Objects, numbers) on chapter 19's heap. LONE=M. No conditions. -/
import Derived.Test.YtlncengggmgdgaaGreatG22
import Derived.Test.YtlncengggmgdgaaGreatG32
import Derived.Test.YtlncengggmgdgaaGreatG33
import Derived.Test.YtlncengggmgdgaaGreatG30
set_option linter.unusedVariables false
set_option linter.unusedSimpArgs false
set_option maxRecDepth 100000
namespace Go.Proofs.YtlncengggmgdgaaGreat.aw
open Go Go.RowKit gr hd lx ob
open fr (iT qw dL bM leB xO dN iZ)
attribute [local irreducible] par.ah
set_option maxHeartbeats 4000000
theorem DR(b b2:Nat)(w:World)(hb:aW w b #[.int .u64 2,.int .u64 6] 24):Calls (par.ah par.Hm) 77 #[.agg #[.int .u64 10,.int .i64 5,.int .i64 0,.bool false,.int .i64 2,.slice (some ⟨b,0,none⟩) 2 2,.slice none 0 0,.slice none 0 0,.slice none 0 0,.slice (some ⟨b2,0,none⟩) 1 1]] w λe w'=>∃B bo cz,e=.returned (.tuple #[.slice (some ⟨B,0,none⟩) 5 5,.bool true])/\F5 w' B bo 0 cz/\Below w.heap.size w w':=by
 go_enter (par.adz (H:=par.Hm)),Tryz.ntmps77
 go_wp2_with fail
 refine(abq b _ (hb.alloc _)).mono ?_;rintro e w1 ⟨bo,cz,rfl,h1,k1⟩
 have KH:aW w1 (w.heap.size) (#[Value.int .u64 10,.int .i64 5,.int .i64 0,.bool false,.int .i64 2,.slice (some ⟨b,0,none⟩) 2 2,.slice none 0 0,.slice none 0 0,.slice none 0 0,.slice (some ⟨b2,0,none⟩) 1 1]) 34:=bk
 obtain⟨lH,cH,fH⟩:=KH.get
 go_wp2_with fail
 refine(abr _).mono ?_;rintro e w2 ⟨rfl,k2⟩
 have KH:aW w2 (w.heap.size) (#[Value.int .u64 10,.int .i64 5,.int .i64 0,.bool false,.int .i64 2,.slice (some ⟨b,0,none⟩) 2 2,.slice none 0 0,.slice none 0 0,.slice none 0 0,.slice (some ⟨b2,0,none⟩) 1 1]) 34:=bk
 obtain⟨lH,cH,fH⟩:=KH.get
 go_wp2_with fail
 refine(FK b b2 _ _).mono ?_;rintro e w3 ⟨rfl,k3⟩
 have KH:aW w3 (w.heap.size) (#[Value.int .u64 10,.int .i64 5,.int .i64 0,.bool false,.int .i64 2,.slice (some ⟨b,0,none⟩) 2 2,.slice none 0 0,.slice none 0 0,.slice none 0 0,.slice (some ⟨b2,0,none⟩) 1 1]) 34:=bk
 obtain⟨lH,cH,fH⟩:=KH.get
 go_wp2_with fail
 refine(FK b b2 _ _).mono ?_;rintro e w4 ⟨rfl,k4⟩
 have KH:aW w4 (w.heap.size) (#[Value.int .u64 10,.int .i64 5,.int .i64 0,.bool false,.int .i64 2,.slice (some ⟨b,0,none⟩) 2 2,.slice none 0 0,.slice none 0 0,.slice none 0 0,.slice (some ⟨b2,0,none⟩) 1 1]) 34:=bk
 obtain⟨lH,cH,fH⟩:=KH.get
 go_wp2_with fail
 refine(DK _).mono ?_;rintro e w5 ⟨rfl,k5⟩
 have KH:aW w5 (w.heap.size) (#[Value.int .u64 10,.int .i64 5,.int .i64 0,.bool false,.int .i64 2,.slice (some ⟨b,0,none⟩) 2 2,.slice none 0 0,.slice none 0 0,.slice none 0 0,.slice (some ⟨b2,0,none⟩) 1 1]) 34:=bk
 obtain⟨lH,cH,fH⟩:=KH.get
 go_wp2_with fail
 refine(DK _).mono ?_;rintro e w6 ⟨rfl,k6⟩
 go_wp2_with fail
 go_ret2
 refine⟨_,bo,cz,rfl,⟨aW.new _ _ _,?_⟩,?_⟩
 ·refine h1.tr ?_
  exact bm
 ·exact bm
theorem DT(b b2:Nat)(w:World)(hb:aW w b #[.int .u64 2,.int .u64 6] 24)(hc:aW w b2 #[.int .u64 21] 24):Calls (par.ah par.Hm) 33 #[.agg #[.int .u64 10,.int .i64 5,.int .i64 0,.bool false,.int .i64 2,.slice (some ⟨b,0,none⟩) 2 2,.slice none 0 0,.slice none 0 0,.slice none 0 0,.slice (some ⟨b2,0,none⟩) 1 1]] w λe w'=>e=.returned (.bool true)/\Below w.heap.size w w':=by
 go_enter (par.ada (H:=par.Hm)),Tryz.ntmps33
 go_wp2_with fail
 refine(abl b b2 _).mono ?_;rintro e w1 ⟨rfl,k1⟩
 have KH:aW w1 (w.heap.size) (#[Value.int .u64 10,.int .i64 5,.int .i64 0,.bool false,.int .i64 2,.slice (some ⟨b,0,none⟩) 2 2,.slice none 0 0,.slice none 0 0,.slice none 0 0,.slice (some ⟨b2,0,none⟩) 1 1]) 34:=bk
 obtain⟨lH,cH,fH⟩:=KH.get
 have kk1:Below w.heap.size w w1:=bm
 go_wp2_with fail
 refine(DR b b2 _ (hb.tr kk1)).mono ?_;rintro e w2 ⟨B,bo,cz,rfl,h5,k2⟩
 have KH:aW w2 (w.heap.size) (#[Value.int .u64 10,.int .i64 5,.int .i64 0,.bool false,.int .i64 2,.slice (some ⟨b,0,none⟩) 2 2,.slice none 0 0,.slice none 0 0,.slice none 0 0,.slice (some ⟨b2,0,none⟩) 1 1]) 34:=bk
 obtain⟨lH,cH,fH⟩:=KH.get
 obtain⟨l5,d5,g5⟩:=h5.1.get
 obtain⟨⟨h1,h2,h3⟩,-⟩:=h5.2
 have kk2:=aP kk1 k2
 obtain⟨l6,d6,g6⟩:=(hc.tr kk2).get
 go_wp2_with fail
 refine bZ 1 ?_
 unfold roll
 go_wp2_with fail
 refine bZ 2 ?_
 unfold roll
 go_upto_region 14 with(fail)
 have HK:Hid (∀W':World,Below w2.heap.size w2 W'->(∀i,W'.cell? ⟨w.heap.size,i,none⟩= #[Value.int .u64 10,.int .i64 5,.int .i64 0,.bool false,.int .i64 2,.slice (some ⟨b,0,none⟩) 2 2,.slice none 0 0,.slice none 0 0,.slice none 0 0,.slice (some ⟨b2,0,none⟩) 1 1][i]?)/\W'.cell? ⟨b2,0,none⟩=some (.int .u64 21)):=Lib.hid λW' h=>⟨(KH.tr h).get.2.1,(((hc.tr kk2).tr h).get.2.1 0).trans rfl⟩
 go_region_held3 (λW'=>(∀i,W'.cell? ⟨w.heap.size,i,none⟩= #[Value.int .u64 10,.int .i64 5,.int .i64 0,.bool false,.int .i64 2,.slice (some ⟨b,0,none⟩) 2 2,.slice none 0 0,.slice none 0 0,.slice none 0 0,.slice (some ⟨b2,0,none⟩) 1 1][i]?)/\W'.cell? ⟨b2,0,none⟩=some (.int .u64 21)) ((exact HK.out _ bm)) (first|(go_at_call 80;refine(abh b b2 B bo 0 cz _ (h5.tr (by exact bm))).mono ?_;rintro e w3 ⟨rfl,k3⟩))
 have k3':Below w2.heap.size w2 w3:=bm
 have kk3:=aP kk2 k3'
 clear lH cH fH
 replace KH:=KH.tr k3'
 obtain⟨lH,cH,fH⟩:=KH.get
 replace h5:=h5.tr k3'
 go_wp2_with fail
 unfold roll
 go_wp2_with fail
 refine bZ 5 ?_
 unfold roll
 go_wp2_with fail
 refine(abj b b2 B bo 0 cz _ h5).mono ?_;rintro e w4 ⟨rfl,k4⟩
 have KH:aW w4 (w.heap.size) (#[Value.int .u64 10,.int .i64 5,.int .i64 0,.bool false,.int .i64 2,.slice (some ⟨b,0,none⟩) 2 2,.slice none 0 0,.slice none 0 0,.slice none 0 0,.slice (some ⟨b2,0,none⟩) 1 1]) 34:=bk
 obtain⟨lH,cH,fH⟩:=KH.get
 replace h5:=h5.tr k4
 go_wp2_with fail
 unfold roll
 go_wp2_with fail
 refine(Ii b b2 B bo 0 cz 2 _ h5 (by decide)).mono ?_;rintro e w5 ⟨rfl,k5⟩
 have KH:aW w5 (w.heap.size) (#[Value.int .u64 10,.int .i64 5,.int .i64 0,.bool false,.int .i64 2,.slice (some ⟨b,0,none⟩) 2 2,.slice none 0 0,.slice none 0 0,.slice none 0 0,.slice (some ⟨b2,0,none⟩) 1 1]) 34:=bk
 obtain⟨lH,cH,fH⟩:=KH.get
 replace h5:=h5.tr k5
 go_wp2_with fail
 unfold roll
 go_wp2_with fail
 refine(Ii b b2 B bo 0 cz 3 _ h5 (by decide)).mono ?_;rintro e w6 ⟨rfl,k6⟩
 have KH:aW w6 (w.heap.size) (#[Value.int .u64 10,.int .i64 5,.int .i64 0,.bool false,.int .i64 2,.slice (some ⟨b,0,none⟩) 2 2,.slice none 0 0,.slice none 0 0,.slice none 0 0,.slice (some ⟨b2,0,none⟩) 1 1]) 34:=bk
 obtain⟨lH,cH,fH⟩:=KH.get
 replace h5:=h5.tr k6
 go_wp2_with fail
 unfold roll
 go_wp2_with fail
 refine(Ii b b2 B bo 0 cz 4 _ h5 (by decide)).mono ?_;rintro e w7 ⟨rfl,k7⟩
 have KH:aW w7 (w.heap.size) (#[Value.int .u64 10,.int .i64 5,.int .i64 0,.bool false,.int .i64 2,.slice (some ⟨b,0,none⟩) 2 2,.slice none 0 0,.slice none 0 0,.slice none 0 0,.slice (some ⟨b2,0,none⟩) 1 1]) 34:=bk
 obtain⟨lH,cH,fH⟩:=KH.get
 replace h5:=h5.tr k7
 go_wp2_with fail
 unfold roll
 go_wp2_with fail
 have HQ:Hid (∀W':World,Below w7.heap.size w7 W'->(∀i,W'.cell? ⟨w.heap.size,i,none⟩= #[Value.int .u64 10,.int .i64 5,.int .i64 0,.bool false,.int .i64 2,.slice (some ⟨b,0,none⟩) 2 2,.slice none 0 0,.slice none 0 0,.slice none 0 0,.slice (some ⟨b2,0,none⟩) 1 1][i]?)):=Lib.hid λW' h=>(KH.tr h).get.2.1
 go_region_held3 (λW'=>∀i,W'.cell? ⟨w.heap.size,i,none⟩= #[Value.int .u64 10,.int .i64 5,.int .i64 0,.bool false,.int .i64 2,.slice (some ⟨b,0,none⟩) 2 2,.slice none 0 0,.slice none 0 0,.slice none 0 0,.slice (some ⟨b2,0,none⟩) 1 1][i]?) ((exact HQ.out _ bm)) (first|(go_at_call 82;refine(abk B bo 0 cz _ (h5.tr (by exact bm))).mono ?_;rintro e w8 ⟨rfl,k8⟩))
 go_wp2_with fail
 go_ret
 exact⟨rfl,bm⟩
theorem abv(b b2:Nat)(w:World)(hb:aW w b #[.int .u64 2,.int .u64 6] 24)(hc:aW w b2 #[.int .u64 21] 24):Calls (par.ah par.Hm) 36 #[.agg #[.int .u64 10,.int .i64 5,.int .i64 0,.bool false,.int .i64 2,.slice (some ⟨b,0,none⟩) 2 2,.slice none 0 0,.slice none 0 0,.slice none 0 0,.slice (some ⟨b2,0,none⟩) 1 1],.int .i64 1] w λe w'=>∃bo cz,e=.returned (.tuple #[.slice (some ⟨bo,0,none⟩) 1 cz,.int .i64 0])/\L1 w' bo 0 cz/\Below w.heap.size w w':=by
 go_enter (par.WL (H:=par.Hm)),Tryz.ntmps36
 go_wp2_with fail
 refine(DT b b2 _ (hb.alloc _) (hc.alloc _)).mono ?_;rintro e w1 ⟨rfl,k1⟩
 have KH:aW w1 (w.heap.size) (#[Value.int .u64 10,.int .i64 5,.int .i64 0,.bool false,.int .i64 2,.slice (some ⟨b,0,none⟩) 2 2,.slice none 0 0,.slice none 0 0,.slice none 0 0,.slice (some ⟨b2,0,none⟩) 1 1]) 34:=bk
 obtain⟨lH,cH,fH⟩:=KH.get
 have kk1:Below w.heap.size w w1:=bm
 go_wp2_with fail
 refine(DR b b2 _ (hb.tr kk1)).mono ?_;rintro e w2 ⟨B,bo,cz,rfl,h5,k2⟩
 obtain⟨l5,d5,g5⟩:=h5.1.get
 go_wp2_with fail
 go_ret2
 exact⟨bo,cz,rfl,h5.2,bm⟩
theorem Ij(b b2 p:Nat)(w:World)(hb:aW w b #[.int .u64 2,.int .u64 6] 24)(hc:aW w b2 #[.int .u64 21] 24)(hp:2<=p/\p<=4):Calls (par.ah par.Hm) 36 #[.agg #[.int .u64 10,.int .i64 5,.int .i64 0,.bool false,.int .i64 2,.slice (some ⟨b,0,none⟩) 2 2,.slice none 0 0,.slice none 0 0,.slice none 0 0,.slice (some ⟨b2,0,none⟩) 1 1],.int .i64 p] w λe w'=>e=.returned (.tuple #[.slice none 0 0,.int .i64 0])/\Below w.heap.size w w':=by
 obtain rfl|rfl|rfl:p=2\/p=3\/p=4:=by omega
 all_goals
  go_enter (par.WL (H:=par.Hm)),Tryz.ntmps36
  go_wp2_with fail
  refine(DT b b2 _ (hb.alloc _) (hc.alloc _)).mono ?_;rintro e w1 ⟨rfl,k1⟩
  have KH:aW w1 (w.heap.size) (#[Value.int .u64 10,.int .i64 5,.int .i64 0,.bool false,.int .i64 2,.slice (some ⟨b,0,none⟩) 2 2,.slice none 0 0,.slice none 0 0,.slice none 0 0,.slice (some ⟨b2,0,none⟩) 1 1]) 34:=bk
  obtain⟨lH,cH,fH⟩:=KH.get
  have kk1:Below w.heap.size w w1:=bm
  go_wp2_with fail
  refine(DR b b2 _ (hb.tr kk1)).mono ?_;rintro e w2 ⟨B,bo,cz,rfl,h5,k2⟩
  obtain⟨l5,d5,g5⟩:=h5.1.get
  go_wp2_with fail
  go_ret2
  exact⟨rfl,bm⟩
theorem su(B n c:Nat)(zs:List Nat)(w:World)(hn:zs.length=n)(hc:n<1000)(hB:aW w B (zs.map λz:Nat=>Value.int .u64 z).toArray 24)(hz:∀z∈zs,z<18446744073709551616):
  Calls (par.ah par.Hm) 53 #[.slice (some ⟨B,0,none⟩) n c] w λe w'=>e=.returned (.string (dL (zs.flatMap bM)))/\Below w.heap.size w w':=by
 have HB:=Lib.hid hB
 have HZ:=Lib.hid hz
 clear hB hz
 go_enter (par.adk (H:=par.Hm)),Tryz.ntmps53
 go_wp2_with fail
 go_loopw [3,4] (λs i wr=>∃k:Nat,k<=n/\i=.int .i64 k/\s=.string (dL ((zs.take k).flatMap bM))/\Hid (Below w.heap.size w wr)) (λ_ i _=>n-(intOf i).toNat)
 case atStart=>exact⟨0,Nat.zero_le _,rfl,rfl,Lib.hid (Below.refl _ _)⟩
 case round=>
  obtain⟨k,hk,rfl,rfl,hb⟩:=hrel
  by_cases hlk:k<n
  ·have hx:zs[k]? =some (zs[k]'(by omega)):=List.getElem?_eq_getElem (by omega)
   have hs:dL ((zs.take (k+1)).flatMap bM)=dL ((zs.take k).flatMap bM)++dL (bM (zs[k]'(by omega))):=by
    rw[<-xO,List.take_add_one,hx,List.flatMap_append];simp
   have hv:=HZ.out _ (List.getElem_mem (show k<zs.length by omega))
   obtain⟨lb,cb,fb⟩:=(HB.out.tr hb.out).get
   have ck:wr.cell? ⟨B,k,none⟩=some (.int .u64 ((zs[k]'(by omega):Nat):Int)):=by rw[cb k];simp[hx]
   have HS:=Lib.hid hs
   have hl1:(dL (bM (zs[k]'(by omega)))).size<=10:=by rw[dN];exact iZ hv
   have hl0:(dL ((zs.take k).flatMap bM)).size<=10000:=by
    rw[dN]
    have:∀l:List Nat,(∀z∈l,z<18446744073709551616)->(l.flatMap bM).length<=10*l.length:=λl=>by
     induction l with
     |nil=>exactλ_=>Nat.le_refl _
     |cons a l ih=>
      intro h
      have h1:=iZ (h a (by simp))
      have h2:=ih λz hz=>h z (by simp[hz])
      simp only[List.flatMap_cons,List.length_append,List.length_cons]
      omega
    have h3:=this (zs.take k) λz hz=>HZ.out z (List.mem_of_mem_take hz)
    rw[List.length_take]at h3
    omega
   generalize zs[k]'(by omega)=x at*
   clear cb fb hs
   generalize dL ((zs.take k).flatMap bM)=S0 at*
   go_wp2_with fail
   refine(iT x _ hv).mono ?_;rintro e w1 ⟨rfl,k1⟩
   go_wp2_with fail
   exact⟨⟨k+1,by omega,by go_num,by rw[HS.out],aP hb.out k1⟩,by simp[intOf];omega⟩
  ·obtain rfl:k=n:=by omega
   have h2:=hb.out
   rw[show zs.take k=zs from List.take_of_length_le (by omega)]
   go_wp2_with fail
   go_ret
   exact⟨rfl,h2⟩
end Go.Proofs.YtlncengggmgdgaaGreat.aw
namespace Go.Proofs.YtlncengggmgdgaaGreat.aw
open Go Go.RowKit gr hd lx ob
open fr (iT qw dL bM leB xO dN iZ mF jo jq lX kC)
attribute [local irreducible] par.ah
set_option maxHeartbeats 4000000
theorem aeF(b:Nat)(w:World)(h6:w.cell? ⟨b,1,none⟩=some (.int .u64 6)):Calls (par.ah par.Hm) 54 #[.slice (some ⟨b,1,none⟩) 1 1] w λe w'=>e=.returned (.string ⟨#[6,0,0,0,0,0,0,0]⟩)/\Below w.heap.size w w':=by
 have HB:Hid (∀W,Calls (par.ah par.Hm) 98 #[.int .u64 6,.int .i64 8] W λe w'=>e=.returned (.string ⟨#[6,0,0,0,0,0,0,0]⟩)/\Below W.heap.size W w'):=Lib.hid λW=>qw 6 8 W (by decide) (by decide) (by decide)
 go_enter (par.adl (H:=par.Hm)),Tryz.ntmps54
 go_wp2_with fail
 refine bZ 2 ?_
 unfold roll
 go_wp2_with fail
 refine(HB.out _).mono ?_;rintro e w1 ⟨rfl,k1⟩
 go_wp2_with fail
 unfold roll
 go_wp2_with fail
 go_ret
 exact⟨rfl,bm⟩
theorem abw(a:Option Addr)(c:Nat)(w:World):Calls (par.ah par.Hm) 34 #[.slice a 0 c] w λe w'=>e=.returned (.tuple #[.string ⟨#[]⟩,.int .i64 0])/\Below w.heap.size w w':=by
 go_enter (par.WJ (H:=par.Hm)),Tryz.ntmps34
 go_wp2_with fail
 refine bZ 1 ?_
 unfold roll
 go_wp2_with fail
 go_ret2
 exact⟨rfl,bm⟩
theorem abx(b2:Nat)(w:World)(hc:aW w b2 #[.int .u64 21] 24):Calls (par.ah par.Hm) 34 #[.slice (some ⟨b2,0,none⟩) 1 1] w λe w'=>e=.returned (.tuple #[.string ⟨#[10]⟩,.int .i64 0])/\Below w.heap.size w w':=by
 obtain⟨lb,cb,fb⟩:=hc.get
 have HA:Hid (∀W,Calls (par.ah par.Hm) 83 #[.int .u64 21] W λe w'=>e=.returned (.tuple #[.int .u64 10,.int .i64 0])/\W=w'):=Lib.hid λW=>nS 21 W (by decide) (by decide)
 have HP:Hid (∀W,Calls (par.ah par.Hm) 27 #[.int .u64 10] W λe w'=>e=.returned (.string ⟨#[10]⟩)/\Below W.heap.size W w'):=Lib.hid λW=>by
  have h:=iT (HC:=par.Hm) 10 W (by decide)
  rw[show dL (bM 10)=⟨#[10]⟩ by kernel_rfl]at h
  exact h
 go_enter (par.WJ (H:=par.Hm)),Tryz.ntmps34
 go_wp2_with fail
 refine bZ 2 ?_
 unfold roll
 go_wp2_with fail
 refine(HA.out _).mono ?_;rintro e ww ⟨rfl,rfl⟩
 go_wp2_with fail
 refine(HP.out _).mono ?_;rintro e w1 ⟨rfl,k1⟩
 go_wp2_with fail
 unfold roll
 go_wp2_with fail
 go_ret2
 exact⟨rfl,bm⟩
theorem aby(b b2:Nat)(w:World):Calls (par.ah par.Hm) 35 #[.agg #[.int .u64 10,.int .i64 5,.int .i64 0,.bool false,.int .i64 2,.slice (some ⟨b,0,none⟩) 2 2,.slice none 0 0,.slice none 0 0,.slice none 0 0,.slice (some ⟨b2,0,none⟩) 1 1]] w λe w'=>e=.returned (.string ⟨#[1,10,5,0,0,2]⟩)/\Below w.heap.size w w':=by
 go_enter (par.adb (H:=par.Hm)),Tryz.ntmps35
 go_wp2_with fail
 refine(su _ 6 6 [1,10,5,0,0,2] _ rfl (by decide) bk (by decide)).mono ?_
 rw[show dL ([1,10,5,0,0,2].flatMap bM)=⟨#[1,10,5,0,0,2]⟩ by kernel_rfl]
 rintro e w1 ⟨rfl,k1⟩
 go_wp2_with fail
 go_ret
 exact⟨rfl,bm⟩
theorem Yr(w:World):Calls (par.ah par.Hm) 52 #[.slice none 0 0,.slice none 0 0] w λe w'=>e=.returned (.tuple #[.slice none 0 0,.int .i64 0])/\Below w.heap.size w w':=by
 go_enter (par.WQ (H:=par.Hm)),Tryz.ntmps52
 go_wp2_with fail
 refine bZ 1 ?_
 unfold roll
 go_wp2_with fail
 go_ret2
 exact⟨rfl,bm⟩
theorem Yt(b bo fo cz:Nat)(w:World)(h:L1 w bo fo cz):Calls (par.ah par.Hm) 52 #[.slice (some ⟨b,0,none⟩) 2 2,.slice (some ⟨bo,fo,none⟩) 1 cz] w λe w'=>(∃v,e=.returned (.tuple #[v,.int .i64 0]))/\Below w.heap.size w w':=by
 obtain⟨⟨h1,h2,h3⟩,c0,c1,c2,c3,c4⟩:=h
 have HR:Hid (∀W,Calls (par.ah par.Hm) 94 #[.agg #[.int .i64 1,.int .i64 0]] W λe w'=>e=.returned (.bool true)/\Below W.heap.size W w'):=Lib.hid λW=>yI 1 0 W
 go_enter (par.WQ (H:=par.Hm)),Tryz.ntmps52
 go_wp2_with fail
 refine bZ 2 ?_
 unfold roll
 go_wp2_with fail
 refine(HR.out _).mono ?_;rintro e w1 ⟨rfl,k1⟩
 have x0:=aJ k1 c0
 have x1:=aJ k1 c1
 have x2:=aJ k1 c2
 have h4:bo<w1.heap.size:=Nat.lt_of_lt_of_le h3 k1.size
 go_wp2_with (at_builtin;refine ab6 _ rfl _ _ rfl w.heap.size _ _ [] [1] rfl rfl ?d0 ?d1 (by decide) ?d3 ?d4)
 case d0=>exact aX.nil _ _
 case d1=>exact lD _ (1:Int) _ rfl _ rfl
 case d3=>have:=k1.size;simp;omega
 case d4=>
 intro v2 w2 ho2 hg hat
 have hb2:Below w.heap.size w w2:=dF hg (eG k1 (Nat.le_refl _) _) (Nat.le_refl _) (λk e=>by cases e)
 have y0:=aJ hb2 c0
 have y1:=aJ hb2 c1
 have y2:=aJ hb2 c2
 have h5:bo<w2.heap.size:=Nat.lt_of_lt_of_le h3 hb2.size
 obtain⟨va,vc,ev,-⟩:=ho2.form Hz
 have ev:v2=.slice va 1 vc:=ev
 subst ev
 go_wp2_with fail
 refine bZ 2 ?_
 unfold roll
 go_wp2_with (at_builtin;refine ab6 _ rfl _ _ rfl w.heap.size _ _ [1] [3] rfl rfl ?d0 ?d1 (by decide) ?d3 ?d4)
 case d0=>exact ho2.tr bm
 case d1=>exact lD _ (3:Int) _ rfl _ rfl
 case d3=>have:=hb2.size;simp;omega
 case d4=>
 intro v3 w3 ho3 hg3 afe
 have hb3:Below w.heap.size w w3:=dF hg3 (eG hb2 (Nat.le_refl _) _) (Nat.le_refl _) ho2.block
 have z0:=aJ hb3 c0
 have z1:=aJ hb3 c1
 have z2:=aJ hb3 c2
 have h6:bo<w3.heap.size:=Nat.lt_of_lt_of_le h3 hb3.size
 obtain⟨ua,uc,eu,-⟩:=ho3.form Hz
 have eu:v3=.slice ua 2 uc:=eu
 subst eu
 go_wp2_with fail
 unfold roll
 go_wp2_with fail
 unfold roll
 go_wp2_with fail
 go_ret2
 exact⟨⟨_,rfl⟩,hb3⟩
theorem Ik(a:Option Addr)(w:World):Calls (par.ah par.Hm) 19 #[.slice none 0 0,.slice none 0 0] w λe w'=>e=.returned (.tuple #[.string ⟨#[0]⟩,.int .i64 0])/\Below w.heap.size w w':=by
 have HP:Hid (∀W,Calls (par.ah par.Hm) 27 #[.int .u64 0] W λe w'=>e=.returned (.string ⟨#[0]⟩)/\Below W.heap.size W w'):=Lib.hid λW=>by
  have h:=iT (HC:=par.Hm) 0 W (by decide)
  rw[show dL (bM 0)=⟨#[0]⟩ by kernel_rfl]at h
  exact h
 go_enter (par.WG (H:=par.Hm)),Tryz.ntmps19
 go_wp2_with fail
 refine(Yr _).mono ?_;rintro e w1 ⟨rfl,k1⟩
 go_wp2_with fail
 refine(HP.out _).mono ?_;rintro e w2 ⟨rfl,k2⟩
 go_wp2_with fail
 refine bZ 1 ?_
 unfold roll
 go_wp2_with fail
 go_ret2
 exact⟨rfl,bm⟩
theorem abz(b bo fo cz:Nat)(w:World)(hb:aW w b #[.int .u64 2,.int .u64 6] 24)(h:L1 w bo fo cz):Calls (par.ah par.Hm) 19 #[.slice (some ⟨b,0,none⟩) 2 2,.slice (some ⟨bo,fo,none⟩) 1 cz] w λe w'=>e=.returned (.tuple #[.string ⟨#[1,0,1,0,6,0,0,0,0,0,0,0]⟩,.int .i64 0])/\Below w.heap.size w w':=by
 have HR:Hid (∀W B,aW W B #[.int .u64 0,.int .u64 1,.int .u64 0] 24->Calls (par.ah par.Hm) 53 #[.slice (some ⟨B,0,none⟩) 3 3] W λe w'=>e=.returned (.string ⟨#[0,1,0]⟩)/\Below W.heap.size W w'):=Lib.hid λW B hB=>by
  have h:=su B 3 3 [0,1,0] W rfl (by decide) hB (by decide)
  rw[show dL ([0,1,0].flatMap bM)=⟨#[0,1,0]⟩ by kernel_rfl]at h
  exact h
 have HP:Hid (∀W,Calls (par.ah par.Hm) 27 #[.int .u64 1] W λe w'=>e=.returned (.string ⟨#[1]⟩)/\Below W.heap.size W w'):=Lib.hid λW=>by
  have h:=iT (HC:=par.Hm) 1 W (by decide)
  rw[show dL (bM 1)=⟨#[1]⟩ by kernel_rfl]at h
  exact h
 have HW:Hid (∀W,Below w.heap.size w W->Calls (par.ah par.Hm) 54 #[.slice (some ⟨b,1,none⟩) 1 1] W λe w'=>e=.returned (.string ⟨#[6,0,0,0,0,0,0,0]⟩)/\Below W.heap.size W w'):=Lib.hid λW hW=>aeF b W (((hb.tr hW).get.2.1 1).trans rfl)
 have HE:Hid ((⟨#[1]⟩:ByteArray)++⟨#[0,1,0]⟩++⟨#[]⟩++⟨#[6,0,0,0,0,0,0,0]⟩=⟨#[1,0,1,0,6,0,0,0,0,0,0,0]⟩):=Lib.hid (by kernel_rfl)
 have hs1:(⟨#[1]⟩:ByteArray).size=1:=rfl
 have hs2:(⟨#[0,1,0]⟩:ByteArray).size=3:=rfl
 have hs3:(⟨#[6,0,0,0,0,0,0,0]⟩:ByteArray).size=8:=rfl
 generalize(⟨#[1]⟩:ByteArray)=AK at*
 generalize(⟨#[0,1,0]⟩:ByteArray)=SB at*
 generalize(⟨#[6,0,0,0,0,0,0,0]⟩:ByteArray)=WB at*
 generalize(⟨#[1,0,1,0,6,0,0,0,0,0,0,0]⟩:ByteArray)=ZB at*
 go_enter (par.WG (H:=par.Hm)),Tryz.ntmps19
 go_wp2_with fail
 refine(Yt b bo fo cz _ h).mono ?_;rintro e w1 ⟨⟨kv,rfl⟩,k1⟩
 go_wp2_with fail
 refine(HP.out _).mono ?_;rintro e w2 ⟨rfl,k2⟩
 have kk2:Below w.heap.size w w2:=bm
 obtain⟨⟨h1,h2,h3⟩,c0,c1,c2,c3,c4⟩:=h.tr kk2
 go_wp2_with fail
 refine bZ 2 ?_
 unfold roll
 go_wp2_with fail
 refine(abw _ _ _).mono ?_;rintro e w3 ⟨rfl,k3⟩
 have KO:aW w3 (w2.heap.size) (#[.int .i64 0,.int .i64 1,.int .i64 0,.bool false,.int .u64 0]) 56:=bk
 obtain⟨lO,cO,fO⟩:=KO.get
 have kk3:Below w.heap.size w w3:=bm
 have ad1:=kC (HC:=par.Hm) AK SB (by omega)
 have hz1:(AK++SB).size=4:=by rw[ByteArray.size_append];omega
 have he0:(⟨#[]⟩:ByteArray).size=0:=rfl
 generalize(⟨#[]⟩:ByteArray)=EB at*
 have ad2:=kC (HC:=par.Hm) (AK++SB) EB (by omega)
 have hz2:(AK++SB++EB).size=4:=by rw[ByteArray.size_append];omega
 have ad3:=kC (HC:=par.Hm) (AK++SB++EB) WB (by omega)
 have hw1:IntKind.i64.wrap 1=1:=rfl
 have hw2:IntKind.i64.wrap 2=2:=rfl
 have hu0:IntKind.u64.wrap 0=0:=rfl
 have hu1:IntKind.u64.wrap 1=1:=rfl
 have HEB:=Lib.hid he0
 clear hz1 hz2 hs1 hs2 hs3 he0
 go_upto_region 15 with(fail)
 have YO:Hid (∀W':World,Below w3.heap.size w3 W'->∀i,W'.cell? ⟨w2.heap.size,i,none⟩= #[Value.int .i64 0,.int .i64 1,.int .i64 0,.bool false,.int .u64 0][i]?):=Lib.hid λW' h=>(KO.tr h).get.2.1
 refine wp_region_held_drew (S:=(λW'=>∀i,W'.cell? ⟨w2.heap.size,i,none⟩= #[Value.int .i64 0,.int .i64 1,.int .i64 0,.bool false,.int .u64 0][i]?)) (by kernel_rfl) ?_ (λhHeld=> ?_)
 ·(try dsimp only);exact YO.out _ bm
 refine tk 0 ?_
 refine tk 1 ?_
 refine tk 2 ?_
 refine tk 3 ?_
 refine tk 4 ?_
 refine tk 5 ?_
 refine tk 6 ?_
 refine tk 7 ?_
 refine tk 8 ?_
 refine tk 12 ?_
 refine tk 14 ?_
 refine tk 15 ?_
 refine tk 16 ?_
 refine tk 17 ?_
 refine tk 18 ?_
 refine tk 19 ?_
 refine tk 20 ?_
 refine tk 21 ?_
 refine tk 22 ?_
 refine tk 23 ?_
 refine co 9 λK hK=> ?_
 go_simp
 skip
 refine hK.out _ _ ?_ (λhHeld=> ?_)
 ·(try dsimp only);exact YO.out _ bm
 clear hK K
 refine nx ?_
 refine co 10 λK hK=> ?_
 go_simp
 go_at_call 53;refine(HR.out _ _ bk).mono ?_;rintro e w5 ⟨rfl,k5⟩;go_wp2_with fail
 refine hK.out _ _ ?_ (λhHeld=> ?_)
 ·(try dsimp only);exact YO.out _ bm
 clear hK K
 refine nx ?_
 refine tk 11 ?_
 refine tk 13 ?_
 refine co 24 λK hK=> ?_
 go_simp
 go_at_call 54;refine(HW.out _ (aP kk3 bm)).mono ?_;rintro e w6 ⟨rfl,k6⟩;go_wp2_with fail
 refine hK.out _ _ ?_ (λhHeld=> ?_)
 ·(try dsimp only);exact YO.out _ bm
 clear hK K
 refine nx ?_
 refine tk 25 ?_
 refine tk 26 ?_
 refine wpAnyH_done (by kernel_rfl) ?_ _
 have hb9:Hid (Below w.heap.size w w6):=Lib.hid (aP kk3 bm)
 go_wp2_with fail
 unfold roll
 go_wp2_with fail
 go_ret2
 exact⟨by rw[HE.out];rfl,hb9.out⟩
end Go.Proofs.YtlncengggmgdgaaGreat.aw
namespace Go.Proofs.YtlncengggmgdgaaGreat.aw
open Go Go.RowKit gr hd lx ob
open fr (iT mF jo jq lX kC gU dL bM)
attribute [local irreducible] par.ah
set_option maxHeartbeats 4000000
theorem abA{α:Type}{k:Nat}{en:α->List Value}{T:TypeId}{W:World}{B g n:Nat}{cs:Array Value}{zs:List α}(hk:∀x:α,(en x).length=k)(h:aW W g cs T)(hc:cs.toList=zs.flatMap en)(hn:zs.length=n)(hB:B<=g)(h63:n<1000000):aX T k en W B (.slice (some ⟨g,0,none⟩) n n) zs:=by
 subst hn
 unfold aX
 have hl:=Dj (hk:=hk) zs
 refine⟨hl,.inr ⟨g,zs.length,cs,rfl,hB,h.raw,Nat.le_refl _,by unfold maxLen;omega,?_,?_⟩⟩
 ·rw[<-Array.length_toList,hc,hl]
 ·rw[<-hl,hc,List.take_length]
def sD:List lX:=[(1,⟨#[1,10,5,0,0,2]⟩),(2,⟨#[1,10]⟩),(3,⟨#[1,0,1,0,6,0,0,0,0,0,0,0]⟩),(4,⟨#[0]⟩),(5,⟨#[0]⟩),(6,⟨#[0]⟩)]
theorem abB(b b2:Nat)(w:World)(hb:aW w b #[.int .u64 2,.int .u64 6] 24)(hc:aW w b2 #[.int .u64 21] 24):Calls (par.ah par.Hm) 8 #[.agg #[.int .u64 10,.int .i64 5,.int .i64 0,.bool false,.int .i64 2,.slice (some ⟨b,0,none⟩) 2 2,.slice none 0 0,.slice none 0 0,.slice none 0 0,.slice (some ⟨b2,0,none⟩) 1 1]] w λe w'=>e=.returned (.tuple #[.string (jq sD).1,.int .i64 (jq sD).2])/\Below w.heap.size w w':=by
 have HJ:Hid (∀v W,jc 2 jo W v sD->Calls (par.ah par.Hm) 38 #[v] W λe w'=>e=.returned (.tuple #[.string (jq sD).1,.int .i64 (jq sD).2])/\Below W.heap.size W w'):=Lib.hid λv W h=>mF (HC:=par.Hm) v sD W h (by decide) (by decide) (by decide)
 have HP:Hid (∀W,Calls (par.ah par.Hm) 27 #[.int .u64 1] W λe w'=>e=.returned (.string ⟨#[1]⟩)/\Below W.heap.size W w'):=Lib.hid λW=>by
  have h:=iT (HC:=par.Hm) 1 W (by decide)
  rw[show dL (bM 1)=⟨#[1]⟩ by kernel_rfl]at h
  exact h
 have ad1:=kC (HC:=par.Hm) ⟨#[1]⟩ ⟨#[10]⟩ (by decide)
 rw[show(⟨#[1]⟩:ByteArray)++⟨#[10]⟩=⟨#[1,10]⟩ by kernel_rfl]at ad1
 generalize jq sD=R at*
 go_enter (par.afj (H:=par.Hm)),Tryz.ntmps8
 go_wp2_with fail
 refine(DT b b2 _ (hb.alloc _) (hc.alloc _)).mono ?_;rintro e w1 ⟨rfl,k1⟩
 have KH:aW w1 (w.heap.size) (#[Value.int .u64 10,.int .i64 5,.int .i64 0,.bool false,.int .i64 2,.slice (some ⟨b,0,none⟩) 2 2,.slice none 0 0,.slice none 0 0,.slice none 0 0,.slice (some ⟨b2,0,none⟩) 1 1]) 34:=bk
 obtain⟨lH,cH,fH⟩:=KH.get
 have kk1:Below w.heap.size w w1:=bm
 go_wp2_with fail
 refine(abx b2 _ (hc.tr kk1)).mono ?_;rintro e w2 ⟨rfl,k2⟩
 have KH:aW w2 (w.heap.size) (#[Value.int .u64 10,.int .i64 5,.int .i64 0,.bool false,.int .i64 2,.slice (some ⟨b,0,none⟩) 2 2,.slice none 0 0,.slice none 0 0,.slice none 0 0,.slice (some ⟨b2,0,none⟩) 1 1]) 34:=bk
 obtain⟨lH,cH,fH⟩:=KH.get
 have kk2:Below w.heap.size w w2:=bm
 go_upto_region 5 with(fail)
 have YO:Hid (∀W':World,Below w2.heap.size w2 W'->∀i,W'.cell? ⟨w.heap.size,i,none⟩= #[Value.int .u64 10,.int .i64 5,.int .i64 0,.bool false,.int .i64 2,.slice (some ⟨b,0,none⟩) 2 2,.slice none 0 0,.slice none 0 0,.slice none 0 0,.slice (some ⟨b2,0,none⟩) 1 1][i]?):=Lib.hid λW' h=>(KH.tr h).get.2.1
 have hu1:IntKind.u64.wrap 1=1:=rfl
 refine wp_region_held_drew (S:=(λW'=>∀i,W'.cell? ⟨w.heap.size,i,none⟩= #[Value.int .u64 10,.int .i64 5,.int .i64 0,.bool false,.int .i64 2,.slice (some ⟨b,0,none⟩) 2 2,.slice none 0 0,.slice none 0 0,.slice none 0 0,.slice (some ⟨b2,0,none⟩) 1 1][i]?)) (by kernel_rfl) ?_ (λhHeld=> ?_)
 ·(try dsimp only);exact YO.out _ bm
 refine tk 0 ?_
 refine tk 3 ?_
 refine tk 4 ?_
 refine tk 5 ?_
 refine tk 6 ?_
 refine tk 8 ?_
 refine co 1 λK hK=> ?_
 go_simp
 go_at_call 35;refine(aby b b2 _).mono ?_;rintro e w3 ⟨rfl,k3⟩;go_wp2_with fail
 refine hK.out _ _ ?_ (λhHeld=> ?_)
 ·(try dsimp only);exact YO.out _ bm
 clear hK K
 refine nx ?_
 refine tk 2 ?_
 refine co 7 λK hK=> ?_
 go_simp
 go_at_call 27;refine(HP.out _).mono ?_;rintro e w4 ⟨rfl,k4⟩;go_wp2_with fail
 refine hK.out _ _ ?_ (λhHeld=> ?_)
 ·(try dsimp only);exact YO.out _ bm
 clear hK K
 refine nx ?_
 refine tk 9 ?_
 refine tk 10 ?_
 refine co 11 λK hK=> ?_
 go_simp
 skip
 refine hK.out _ _ ?_ (λhHeld=> ?_)
 ·(try dsimp only);exact YO.out _ bm
 clear hK K
 refine nx ?_
 refine tk 12 ?_
 refine wpAnyH_done (by kernel_rfl) ?_ _
 have hk4:Below w.heap.size w w4:=aP (aP kk2 bm) k4
 have hX:Below w.heap.size w (w4.alloc (.cells #[.int .i64 1,.string ⟨#[1,10,5,0,0,2]⟩,.int .i64 2,.string ⟨#[1,10]⟩] 85)):=jU hk4 _
 have k24:Below w2.heap.size w2 w4:=aP bm k4
 have KH2:=(KH.tr k24).alloc (.cells #[.int .i64 1,.string ⟨#[1,10,5,0,0,2]⟩,.int .i64 2,.string ⟨#[1,10]⟩] 85)
 have hz4:w.heap.size+1<=w4.heap.size:=(KH.tr k24).lt
 have ho:aX 85 2 jo (w4.alloc (.cells #[.int .i64 1,.string ⟨#[1,10,5,0,0,2]⟩,.int .i64 2,.string ⟨#[1,10]⟩] 85)) (w.heap.size+1) (.slice (some ⟨w4.heap.size,0,none⟩) 2 2) (sD.take 2):=abA (λ_=>rfl) (aW.new _ _ _) rfl rfl hz4 (by decide)
 have hs:w.heap.size+1<=(w4.alloc (.cells #[.int .i64 1,.string ⟨#[1,10,5,0,0,2]⟩,.int .i64 2,.string ⟨#[1,10]⟩] 85)).heap.size:=by simp;omega
 generalize w4.alloc (.cells #[.int .i64 1,.string ⟨#[1,10,5,0,0,2]⟩,.int .i64 2,.string ⟨#[1,10]⟩] 85)=X at*
 clear lH cH fH YO k1 k2 k3 k4 kk1 kk2 k24 hk4 hz4 KH
 have KH:=KH2
 obtain⟨lH,cH,fH⟩:=KH.get
 clear KH2
 go_wp2_with fail
 refine bZ 5 ?_
 unfold roll
 go_wp2_with fail
 refine(abv b b2 _ (hb.tr hX) (hc.tr hX)).mono ?_;rintro e wa ⟨bo,cz,rfl,hL,ka⟩
 have k1:Below w.heap.size w wa:=aP hX ka
 clear lH cH fH
 replace KH:=KH.tr ka
 obtain⟨lH,cH,fH⟩:=KH.get
 go_wp2_with fail
 refine(QF b b2 _).mono ?_;rintro e wb ⟨rfl,kb⟩
 have k2:Below w.heap.size w wb:=aP k1 kb
 go_wp2_with fail
 refine(abz b bo 0 cz _ (hb.tr k2) (hL.tr kb)).mono ?_;rintro e wc ⟨rfl,kc⟩
 have k3:Below w.heap.size w wc:=aP k2 kc
 have OM:Below X.heap.size X wc:=aP (aP ka kb) kc
 replace KH:=KH.tr (aP kb kc)
 go_wp2_with (at_builtin;refine gU _ rfl _ _ rfl (w.heap.size+1) _ _ (sD.take 2) ((3:Int),⟨#[1,0,1,0,6,0,0,0,0,0,0,0]⟩) rfl rfl ?d0 ?d1 (by decide) ?d3 ?d4)
 case d0=>exact ho.tr (jU OM _)
 case d1=>exact lD _ (((3:Int),⟨#[1,0,1,0,6,0,0,0,0,0,0,0]⟩):lX) _ rfl _ rfl
 case d3=>have:=OM.size;simp;omega
 case d4=>
 intro v' X' ho' hg hat
 have hX':Below w.heap.size w X':=dF hg (eG k3 (Nat.le_refl _) _) (Nat.le_refl _) (λk e=>by have:=ho.block k e;omega)
 have OO:=yM hg (KH.alloc _) (λk e=>by have:=ho.block k e;omega)
 have hs':w.heap.size+1<=X'.heap.size:=OO.lt
 clear hX hs hg hat k1 k2 k3 OM ka kb kc lH cH fH KH ho
 obtain⟨X,rfl⟩:∃X,X=X':=⟨_,rfl⟩
 have ho:aX 85 2 jo X (w.heap.size+1) v' (sD.take (2+1)):=ho'
 have hX:=hX'
 have KH:=OO
 have hs:=hs'
 clear ho' hX' OO hs'
 obtain⟨lH,cH,fH⟩:=KH.get
 obtain⟨va,vc,ev,-⟩:=ho.form (λ_=>rfl)
 have ev:v'=.slice va (2+1) vc:=ev
 subst ev
 go_wp2_with fail
 unfold roll
 go_wp2_with fail
 refine(Ij b b2 2 _ (hb.tr hX) (hc.tr hX) (by decide)).mono ?_;rintro e wa ⟨rfl,ka⟩
 have k1:Below w.heap.size w wa:=aP hX ka
 clear lH cH fH
 replace KH:=KH.tr ka
 obtain⟨lH,cH,fH⟩:=KH.get
 go_wp2_with fail
 refine(Az b b2 2 _ (by decide)).mono ?_;rintro e wb ⟨rfl,kb⟩
 have k2:Below w.heap.size w wb:=aP k1 kb
 go_wp2_with fail
 refine(Ik none _).mono ?_;rintro e wc ⟨rfl,kc⟩
 have k3:Below w.heap.size w wc:=aP k2 kc
 have OM:Below X.heap.size X wc:=aP (aP ka kb) kc
 replace KH:=KH.tr (aP kb kc)
 go_wp2_with (at_builtin;refine gU _ rfl _ _ rfl (w.heap.size+1) _ _ (sD.take 3) ((4:Int),⟨#[0]⟩) rfl rfl ?d0 ?d1 (by decide) ?d3 ?d4)
 case d0=>exact ho.tr (jU OM _)
 case d1=>exact lD _ (((4:Int),⟨#[0]⟩):lX) _ rfl _ rfl
 case d3=>have:=OM.size;simp;omega
 case d4=>
 intro v' X' ho' hg hat
 have hX':Below w.heap.size w X':=dF hg (eG k3 (Nat.le_refl _) _) (Nat.le_refl _) (λk e=>by have:=ho.block k e;omega)
 have OO:=yM hg (KH.alloc _) (λk e=>by have:=ho.block k e;omega)
 have hs':w.heap.size+1<=X'.heap.size:=OO.lt
 clear hX hs hg hat k1 k2 k3 OM ka kb kc lH cH fH KH ho
 obtain⟨X,rfl⟩:∃X,X=X':=⟨_,rfl⟩
 have ho:aX 85 2 jo X (w.heap.size+1) v' (sD.take (3+1)):=ho'
 have hX:=hX'
 have KH:=OO
 have hs:=hs'
 clear ho' hX' OO hs'
 obtain⟨lH,cH,fH⟩:=KH.get
 obtain⟨va,vc,ev,-⟩:=ho.form (λ_=>rfl)
 have ev:v'=.slice va (3+1) vc:=ev
 subst ev
 go_wp2_with fail
 unfold roll
 go_wp2_with fail
 refine(Ij b b2 3 _ (hb.tr hX) (hc.tr hX) (by decide)).mono ?_;rintro e wa ⟨rfl,ka⟩
 have k1:Below w.heap.size w wa:=aP hX ka
 clear lH cH fH
 replace KH:=KH.tr ka
 obtain⟨lH,cH,fH⟩:=KH.get
 go_wp2_with fail
 refine(Az b b2 3 _ (by decide)).mono ?_;rintro e wb ⟨rfl,kb⟩
 have k2:Below w.heap.size w wb:=aP k1 kb
 go_wp2_with fail
 refine(Ik none _).mono ?_;rintro e wc ⟨rfl,kc⟩
 have k3:Below w.heap.size w wc:=aP k2 kc
 have OM:Below X.heap.size X wc:=aP (aP ka kb) kc
 replace KH:=KH.tr (aP kb kc)
 go_wp2_with (at_builtin;refine gU _ rfl _ _ rfl (w.heap.size+1) _ _ (sD.take 4) ((5:Int),⟨#[0]⟩) rfl rfl ?d0 ?d1 (by decide) ?d3 ?d4)
 case d0=>exact ho.tr (jU OM _)
 case d1=>exact lD _ (((5:Int),⟨#[0]⟩):lX) _ rfl _ rfl
 case d3=>have:=OM.size;simp;omega
 case d4=>
 intro v' X' ho' hg hat
 have hX':Below w.heap.size w X':=dF hg (eG k3 (Nat.le_refl _) _) (Nat.le_refl _) (λk e=>by have:=ho.block k e;omega)
 have OO:=yM hg (KH.alloc _) (λk e=>by have:=ho.block k e;omega)
 have hs':w.heap.size+1<=X'.heap.size:=OO.lt
 clear hX hs hg hat k1 k2 k3 OM ka kb kc lH cH fH KH ho
 obtain⟨X,rfl⟩:∃X,X=X':=⟨_,rfl⟩
 have ho:aX 85 2 jo X (w.heap.size+1) v' (sD.take (4+1)):=ho'
 have hX:=hX'
 have KH:=OO
 have hs:=hs'
 clear ho' hX' OO hs'
 obtain⟨lH,cH,fH⟩:=KH.get
 obtain⟨va,vc,ev,-⟩:=ho.form (λ_=>rfl)
 have ev:v'=.slice va (4+1) vc:=ev
 subst ev
 go_wp2_with fail
 unfold roll
 go_wp2_with fail
 refine(Ij b b2 4 _ (hb.tr hX) (hc.tr hX) (by decide)).mono ?_;rintro e wa ⟨rfl,ka⟩
 have k1:Below w.heap.size w wa:=aP hX ka
 clear lH cH fH
 replace KH:=KH.tr ka
 obtain⟨lH,cH,fH⟩:=KH.get
 go_wp2_with fail
 refine(Az b b2 4 _ (by decide)).mono ?_;rintro e wb ⟨rfl,kb⟩
 have k2:Below w.heap.size w wb:=aP k1 kb
 go_wp2_with fail
 refine(Ik none _).mono ?_;rintro e wc ⟨rfl,kc⟩
 have k3:Below w.heap.size w wc:=aP k2 kc
 have OM:Below X.heap.size X wc:=aP (aP ka kb) kc
 replace KH:=KH.tr (aP kb kc)
 go_wp2_with (at_builtin;refine gU _ rfl _ _ rfl (w.heap.size+1) _ _ (sD.take 5) ((6:Int),⟨#[0]⟩) rfl rfl ?d0 ?d1 (by decide) ?d3 ?d4)
 case d0=>exact ho.tr (jU OM _)
 case d1=>exact lD _ (((6:Int),⟨#[0]⟩):lX) _ rfl _ rfl
 case d3=>have:=OM.size;simp;omega
 case d4=>
 intro v' X' ho' hg hat
 have hX':Below w.heap.size w X':=dF hg (eG k3 (Nat.le_refl _) _) (Nat.le_refl _) (λk e=>by have:=ho.block k e;omega)
 have OO:=yM hg (KH.alloc _) (λk e=>by have:=ho.block k e;omega)
 have hs':w.heap.size+1<=X'.heap.size:=OO.lt
 clear hX hs hg hat k1 k2 k3 OM ka kb kc lH cH fH KH ho
 obtain⟨X,rfl⟩:∃X,X=X':=⟨_,rfl⟩
 have ho:aX 85 2 jo X (w.heap.size+1) v' (sD.take (5+1)):=ho'
 have hX:=hX'
 have KH:=OO
 have hs:=hs'
 clear ho' hX' OO hs'
 obtain⟨lH,cH,fH⟩:=KH.get
 obtain⟨va,vc,ev,-⟩:=ho.form (λ_=>rfl)
 have ev:v'=.slice va (5+1) vc:=ev
 subst ev
 go_wp2_with fail
 unfold roll
 go_wp2_with fail
 refine(HJ.out _ _ (ho.sees (λ_=>rfl))).mono ?_;rintro e wz ⟨rfl,kz⟩
 go_wp2_with fail
 go_ret2
 exact⟨rfl,aP hX kz⟩
end Go.Proofs.YtlncengggmgdgaaGreat.aw
namespace Go.Proofs.YtlncengggmgdgaaGreat.aw
open Go Go.RowKit gr hd lx
open fr (mF DN jo jq lX gU gQ)
attribute [local irreducible] par.ah
set_option maxHeartbeats 4000000
theorem Yu:((par.ah par.Hm).info? 9).map (λi=>(i.zero,i.size,i.bytes))=some (some (.string ⟨#[]⟩),1,16):=by kernel_rfl
theorem abC(s:ByteArray):∀u∈YM s,u.oneCell'=true:=by intro u hu;simp[YM]at hu;subst hu;rfl
theorem ahh{ops:Array Oper}{rest:List Oper}{o:Oper}{a:Act}{Q:Exit->Act->World->Prop}(w:World)(hw:Region.wanted o (yielded ops a.tmps)=true)(s x:Operand)
  (ho:o.op=.call {callee:=.builtin .append,args:= #[s,x],argTypes:= #[39,39]})
  (B:Nat) (v u:Value) (xs ys:List ByteArray) (hs:a.eval s=v) (hx:a.eval x=u) (hown:aX 9 1 YM w B v xs) (hys:jc 1 YM w u ys) (hbig:xs.length+ys.length<100000000000) (hB:B<=w.heap.size)
  (h:∀v' w',aX 9 1 YM w' B v' (xs++ys)->w.grownBy w' v.ownBlock->(v'.ownBlock=v.ownBlock\/v'.ownBlock=some w.heap.size)->wpList (par.ah par.Hm) ops Q rest (a.put o.dst v') w'):wpList (par.ah par.Hm) ops Q (o::rest) a w:=
 Fp (α:=ByteArray) (k:=1) (en:=YM) w hw s x _ ho (λ_=>rfl) abC _ 16 ((par.aB par.Hm 39).trans Tryz.underlying39) Yu rfl (by decide) (by decide) B v u xs ys hs hx hown hys hbig hB h
theorem OQ(s:ByteArray)(w:World)(hs:s.size<10000000000)(hn:(gQ s).1.length<10000000000):
  Calls (par.ah par.Hm) 9 #[.string s] w λe w'=>∃v,e=.returned v/\aX 9 1 YM w' w.heap.size v ((gQ s).1.map (·.2))/\Below w.heap.size w w':=by
 have HA:=Lib.hid λW=>DN (HC:=par.Hm) s W hs
 generalize gQ s=R at*
 obtain⟨fs,ee⟩:=R
 dsimp only at*
 obtain⟨M,hM⟩:∃M,fs.map (λf:lX=>f.2)=M:=⟨_,rfl⟩
 have HM:Hid (∀k,k<fs.length->M.take (k+1)=M.take k++[(fs.getD k (0,⟨#[]⟩)).2]):=Lib.hid λk h=>by
  have:M[k]? =some (fs.getD k (0,⟨#[]⟩)).2:=by rw[<-hM];simp[List.getD,h]
  rw[List.take_add_one,this];rfl
 have HML:M.length=fs.length:=by rw[<-hM];simp
 rw[hM]
 clear hM
 go_enter (par.afk (H:=par.Hm)),Tryz.ntmps9
 go_wp2_with fail
 refine(HA.out _).mono ?_;rintro e w1 ⟨v,rfl,hv,k1⟩
 obtain⟨ad,b,off,cap,rfl,q1,q2,q3,q4,q5,q6⟩:=hv.form
 have HV:=Lib.hid q6
 clear q6 hv
 generalize hm:fs.length=m at*
 have hsz:=k1.size
 go_wp2_with fail
 go_loopw [5,6] (λl i wr=>∃k:Nat,k<=m/\i=.int .i64 k/\Hid (aX 9 1 YM wr w1.heap.size l (M.take k))/\Hid (Below w1.heap.size w1 wr)) (λ_ i _=>m-(intOf i).toNat)
 case atStart=>exact⟨0,Nat.zero_le _,rfl,Lib.hid (aX.nil _ _),Lib.hid (Below.refl _ _)⟩
 case round=>
  obtain⟨k,hk,rfl,ho,hb⟩:=hrel
  by_cases hlk:k<m
  ·obtain rfl:=q1 (by omega)
   have hbl:=q5 (by omega)
   have hx:fs[k]? =some (fs.getD k (0,⟨#[]⟩)):=by simp[List.getD,show k<fs.length by omega]
   have x1:=aJ hb.out (HV.out.at hx 1 _ rfl)
   have hsn:Hid (M.take (k+1)=M.take k++[(fs.getD k (0,⟨#[]⟩)).2]):=Lib.hid (HM.out k (by omega))
   have hll:(M.take k).length+1<100000000000:=by rw[List.length_take];omega
   have ahi:b<wr.heap.size:=Nat.lt_of_lt_of_le hbl hb.out.size
   generalize hX:(fs.getD k (0,⟨#[]⟩)).2=X at*
   clear hX
   generalize M.take k=done at*
   have hs2:=hb.out.size
   go_wp2_with (at_builtin;refine ahh _ rfl _ _ rfl w1.heap.size _ _ done [X] rfl rfl ?d0 ?d1 hll ?d3 ?d4)
   case d0=>exact ho.out.tr bm
   case d1=>exact lD _ X _ rfl _ rfl
   case d3=>(try simp);omega
   case d4=>
   intro v' w4 uS hg hat
   have H2:Hid (aX 9 1 YM w4 w1.heap.size v' (done++[X])):=Lib.hid uS
   have H3:Hid (Below w1.heap.size w1 w4):=Lib.hid (dF hg (eG hb.out (Nat.le_refl _) _) (Nat.le_refl _) ho.out.block)
   clear uS hg hat ho hb
   go_wp2_with fail
   exact⟨⟨k+1,by omega,by go_num,Lib.hid (by rw[hsn.out];exact H2.out),H3⟩,by simp[intOf];omega⟩
  ·obtain rfl:k=m:=by omega
   have ho2:=ho.out
   rw[List.take_of_length_le (by omega)]at ho2
   have HO:=Lib.hid (ho2.lift hsz)
   have HB:=Lib.hid (aP k1 hb.out)
   clear ho ho2 hb
   go_wp2_with fail
   go_ret
   exact⟨_,rfl,HO.out,HB.out⟩
def UH(bs:List ByteArray)(which:Int)(o:ByteArray):List lX:=(List.range bs.length).map λi:Nat=>(1+(i:Int)%127,if(i:Int)=which then o else bs.getD i ⟨#[]⟩)
theorem Yv(bs:List ByteArray)(which:Int)(o:ByteArray){k:Nat}(hk:k<bs.length):(UH bs which o).take (k+1)=(UH bs which o).take k++[(1+(k:Int)%127,if(k:Int)=which then o else bs.getD k ⟨#[]⟩)]:=by
 have:(UH bs which o)[k]? =some (1+(k:Int)%127,if(k:Int)=which then o else bs.getD k ⟨#[]⟩):=by simp[UH,hk]
 rw[List.take_add_one,this]
 rfl
theorem Ut(v:Value)(bs:List ByteArray)(which:Int)(o:ByteArray)(w:World)(hv:jc 1 YM w v bs)(hl:bs.length<=10000)(hs:∀b∈bs,b.size<=100000)(ho:o.size<=100000)(hw1: -9223372036854775808<=which)(hw2:which<9223372036854775808):
  Calls (par.ah par.Hm) 12 #[v,.int .i64 which,.string o] w λe w'=>e=.returned (.string (jq (UH bs which o)).1)/\Below w.heap.size w w':=by
 have HL:Hid ((UH bs which o).length=bs.length):=by show _=_;simp[UH]
 have HJ:Hid (∀v W,jc 2 jo W v (UH bs which o)->Calls (par.ah par.Hm) 38 #[v] W λe w'=>e=.returned (.tuple #[.string (jq (UH bs which o)).1,.int .i64 (jq (UH bs which o)).2])/\Below W.heap.size W w'):=Lib.hid λv W h=>mF (HC:=par.Hm) v _ W h (by rw[HL.out];exact hl) (λf hf=>by
  obtain⟨i,hi,rfl⟩:=List.mem_map.1 hf
  have hi:=List.mem_range.1 hi
  dsimp only
  split
  ·exact ho
  ·refine hs _ ?_
   rw[List.getD_eq_getElem?_getD,List.getElem?_eq_getElem hi]
   exact List.getElem_mem hi) (λf hf=>by
  obtain⟨i,hi,rfl⟩:=List.mem_map.1 hf
  dsimp only
  omega)
 have HT:=Lib.hid λk=>Yv bs which o (k:=k)
 have HB:=Lib.hid hs
 clear hs
 generalize UH bs which o=J at*
 obtain⟨ad,b,off,cap,rfl,q1,q2,q3,q4,q5,q6⟩:=hv.form
 have HV:=Lib.hid q6
 clear q6 hv
 generalize hm:bs.length=m at*
 go_enter (par.ac1 (H:=par.Hm)),Tryz.ntmps12
 go_wp2_with fail
 go_loopw [7,8] (λl i wr=>∃k:Nat,k<=m/\i=.int .i64 k/\Hid (aX 85 2 jo wr w.heap.size l (J.take k))/\Hid (Below w.heap.size w wr)) (λ_ i _=>m-(intOf i).toNat)
 case atStart=>exact⟨0,Nat.zero_le _,rfl,Lib.hid (aX.nil _ _),Lib.hid (Below.refl _ _)⟩
 case round=>
  obtain⟨k,hk,rfl,ho2,hb⟩:=hrel
  by_cases hlk:k<m
  ·obtain rfl:=q1 (by omega)
   have hbl:=q5 (by omega)
   have hx:bs[k]? =some (bs.getD k ⟨#[]⟩):=by simp[List.getD,show k<bs.length by omega]
   have x1:=aJ hb.out (HV.out.at hx 0 _ rfl)
   rw[Nat.mul_one,Nat.add_zero]at x1
   have hT:=HT.out k hlk
   have HLk:=HL.out
   have hll:(J.take k).length+1<100000000000:=by rw[List.length_take];omega
   have ahi:b<wr.heap.size:=Nat.lt_of_lt_of_le hbl hb.out.size
   generalize bs.getD k ⟨#[]⟩=X at*
   have ht:(k:Int).tmod 127=(k:Int)%127:=Int.tmod_eq_emod_of_nonneg (by omega)
   obtain⟨Q,hQ⟩:=Int.eq_ofNat_of_zero_le (show 0<=(k:Int)%127 by omega)
   have hQ2:Q<127:=by omega
   rw[hQ]at ht hT
   have hwq:IntKind.i64.wrap (Q:Int)=(Q:Int):=kL _ (by omega)
   obtain⟨Z,hZ⟩:∃Z:Nat,(Z:Int)=1+(Q:Int):=⟨1+Q,by omega⟩
   have hwz:IntKind.i64.wrap (1+(Q:Int))=(Z:Int):=by rw[kL _ (by omega)];omega
   rw[<-hZ]at hT
   have HT2:=Lib.hid hT
   clear hT hQ hZ
   generalize J.take k=done at*
   have hs2:=hb.out.size
   by_cases he:(k:Int)=which
   ·have HT3:Hid (J.take (k+1)=done++[((Z:Int),o)]):=by have:=HT2.out;rw[if_pos he]at this;exact Lib.hid this
    subst he
    clear HT2
    go_wp2_with (at_builtin;refine gU _ rfl _ _ rfl w.heap.size _ _ done ((Z:Int),o) rfl rfl ?d0 ?d1 hll ?d3 ?d4)
    case d0=>exact ho2.out.tr bm
    case d1=>exact lD _ ((Z:Int),o) _ rfl _ rfl
    case d3=>(try simp);omega
    case d4=>
    intro v' w4 uS hg hat
    have H2:Hid (aX 85 2 jo w4 w.heap.size v' (J.take (k+1))):=Lib.hid (by rw[HT3.out];exact uS)
    have H3:Hid (Below w.heap.size w w4):=Lib.hid (dF hg (eG hb.out (Nat.le_refl _) _) (Nat.le_refl _) ho2.out.block)
    clear uS hg hat ho2 hb
    go_wp2_with fail
    exact⟨⟨k+1,by omega,by go_num,H2,H3⟩,by simp[intOf];omega⟩
   ·have HT3:Hid (J.take (k+1)=done++[((Z:Int),X)]):=by have:=HT2.out;rw[if_neg he]at this;exact Lib.hid this
    have heb:((k:Int)==which)=false:=beq_eq_false_iff_ne.mpr he
    clear HT2
    go_wp2_with (at_builtin;refine gU _ rfl _ _ rfl w.heap.size _ _ done ((Z:Int),X) rfl rfl ?d0 ?d1 hll ?d3 ?d4)
    case d0=>exact ho2.out.tr bm
    case d1=>exact lD _ ((Z:Int),X) _ rfl _ rfl
    case d3=>(try simp);omega
    case d4=>
    intro v' w4 uS hg hat
    have H2:Hid (aX 85 2 jo w4 w.heap.size v' (J.take (k+1))):=Lib.hid (by rw[HT3.out];exact uS)
    have H3:Hid (Below w.heap.size w w4):=Lib.hid (dF hg (eG hb.out (Nat.le_refl _) _) (Nat.le_refl _) ho2.out.block)
    clear uS hg hat ho2 hb
    go_wp2_with fail
    exact⟨⟨k+1,by omega,by go_num,H2,H3⟩,by simp[intOf];omega⟩
  ·obtain rfl:k=m:=by omega
   have h2:=ho2.out
   rw[List.take_of_length_le (by rw[HL.out];omega)]at h2
   have hb2:=hb.out
   have HR:=Lib.hid (h2.sees (λ_=>rfl))
   clear h2 ho2 hb
   go_wp2_with fail
   refine(HJ.out _ _ HR.out).mono ?_;rintro e w2 ⟨rfl,k2⟩
   go_wp2_with fail
   go_ret
   exact⟨rfl,aP hb2 k2⟩
end Go.Proofs.YtlncengggmgdgaaGreat.aw
namespace Go.Proofs.YtlncengggmgdgaaGreat.aw
open Go Go.RowKit gr hd lx
open fr (mF DN jo jq lX gU gQ)
attribute [local irreducible] par.ah
set_option maxHeartbeats 4000000
theorem je(v u:Value)(xs:List Int)(w:World)(hx:jc 1 nH w v xs)(hy:jc 1 nH w u xs)(hl:xs.length<1000000000000):
  Calls (par.ah par.Hm) 22 #[v,u] w λe w'=>e=.returned (.bool true)/\Below w.heap.size w w':=by
 obtain⟨xa,xb,xo,xc,rfl,x1,x2,x3,x4,x5,x6⟩:=hx.form
 obtain⟨ya,yb,yo,yc,rfl,y1,y2,y3,y4,y5,y6⟩:=hy.form
 have HX:=Lib.hid x6
 have HY:=Lib.hid y6
 clear x6 y6 hx hy x2 y2
 generalize hn:xs.length=n at*
 go_enter (par.ac6 (H:=par.Hm)),Tryz.ntmps22
 go_wp2_with fail
 go_loopw [5] (λi wr=>∃k:Nat,k<=n/\i=.int .i64 k/\Below w.heap.size w wr) (λi _=>n-(intOf i).toNat)
 case atStart=>exact⟨0,Nat.zero_le _,rfl,Below.refl _ _⟩
 case round=>
  obtain⟨k,hk,rfl,bel⟩:=hrel
  by_cases hlt:k<n
  ·obtain rfl:=x1 (by omega)
   obtain rfl:=y1 (by omega)
   have c1:=aJ bel (HX.out.at (i:=k) (List.getElem?_eq_getElem (by omega)) 0 (.int .u64 (xs[k]'(by omega))) rfl)
   have c2:=aJ bel (HY.out.at (i:=k) (List.getElem?_eq_getElem (by omega)) 0 (.int .u64 (xs[k]'(by omega))) rfl)
   rw[Nat.mul_one,Nat.add_zero]at c1 c2
   have hs:=bel.size
   have b1:=x5 (by omega)
   have b2:=y5 (by omega)
   generalize xs[k]'(by omega)=X at*
   go_upto_region 6 with(fail)
   go_quiet (fail)
   go_wp2_with fail
   exact⟨⟨k+1,by omega,by go_num,bm⟩,by simp[intOf];omega⟩
  ·go_wp2_with fail
   go_ret
   exact⟨rfl,bm⟩
theorem Ld(B1 C1 T1 S1:Int)(Y1:Bool)(a1 a2 a3 a4 a5:Option Addr)(m1 m2 m3 m4 m5 c1 c2 c3 c4 c5:Nat)(w:World):Calls (par.ah par.Hm) 37 #[.agg #[Value.int .u64 B1,.int .i64 C1,.int .i64 T1,.bool Y1,.int .i64 S1,.slice a1 m1 c1,.slice a2 m2 c2,.slice a3 m3 c3,.slice a4 m4 c4,.slice a5 m5 c5],.int .i64 1] w λe w'=>e=.returned (.slice a1 m1 c1)/\Below w.heap.size w w':=by
 go_enter (par.yF (H:=par.Hm)),Tryz.ntmps37
 go_wp2_with fail
 go_ret
 exact⟨rfl,bm⟩
theorem Le(B1 C1 T1 S1:Int)(Y1:Bool)(a1 a2 a3 a4 a5:Option Addr)(m1 m2 m3 m4 m5 c1 c2 c3 c4 c5:Nat)(w:World):Calls (par.ah par.Hm) 37 #[.agg #[Value.int .u64 B1,.int .i64 C1,.int .i64 T1,.bool Y1,.int .i64 S1,.slice a1 m1 c1,.slice a2 m2 c2,.slice a3 m3 c3,.slice a4 m4 c4,.slice a5 m5 c5],.int .i64 2] w λe w'=>e=.returned (.slice a2 m2 c2)/\Below w.heap.size w w':=by
 go_enter (par.yF (H:=par.Hm)),Tryz.ntmps37
 go_wp2_with fail
 go_ret
 exact⟨rfl,bm⟩
theorem Lh(B1 C1 T1 S1:Int)(Y1:Bool)(a1 a2 a3 a4 a5:Option Addr)(m1 m2 m3 m4 m5 c1 c2 c3 c4 c5:Nat)(w:World):Calls (par.ah par.Hm) 37 #[.agg #[Value.int .u64 B1,.int .i64 C1,.int .i64 T1,.bool Y1,.int .i64 S1,.slice a1 m1 c1,.slice a2 m2 c2,.slice a3 m3 c3,.slice a4 m4 c4,.slice a5 m5 c5],.int .i64 3] w λe w'=>e=.returned (.slice a3 m3 c3)/\Below w.heap.size w w':=by
 go_enter (par.yF (H:=par.Hm)),Tryz.ntmps37
 go_wp2_with fail
 go_ret
 exact⟨rfl,bm⟩
theorem Lj(B1 C1 T1 S1:Int)(Y1:Bool)(a1 a2 a3 a4 a5:Option Addr)(m1 m2 m3 m4 m5 c1 c2 c3 c4 c5:Nat)(w:World):Calls (par.ah par.Hm) 37 #[.agg #[Value.int .u64 B1,.int .i64 C1,.int .i64 T1,.bool Y1,.int .i64 S1,.slice a1 m1 c1,.slice a2 m2 c2,.slice a3 m3 c3,.slice a4 m4 c4,.slice a5 m5 c5],.int .i64 4] w λe w'=>e=.returned (.slice a4 m4 c4)/\Below w.heap.size w w':=by
 go_enter (par.yF (H:=par.Hm)),Tryz.ntmps37
 go_wp2_with fail
 go_ret
 exact⟨rfl,bm⟩
theorem Uu(B1 C1 T1 S1:Int)(Y1:Bool)(v1 v2 v3 v4 v5 u1 u2 u3 u4 u5:Value)(x1 x2 x3 x4 x5:List Int)(w:World)
  (h1:jc 1 nH w v1 x1) (h2:jc 1 nH w v2 x2) (h3:jc 1 nH w v3 x3) (h4:jc 1 nH w v4 x4) (h5:jc 1 nH w v5 x5)
  (g1:jc 1 nH w u1 x1) (g2:jc 1 nH w u2 x2) (g3:jc 1 nH w u3 x3) (g4:jc 1 nH w u4 x4) (g5:jc 1 nH w u5 x5)
  (l1:x1.length<1000000000000) (l2:x2.length<1000000000000) (l3:x3.length<1000000000000) (l4:x4.length<1000000000000) (l5:x5.length<1000000000000):
  Calls (par.ah par.Hm) 16 #[.agg #[.int .u64 B1,.int .i64 C1,.int .i64 T1,.bool Y1,.int .i64 S1,v1,v2,v3,v4,v5],.agg #[.int .u64 B1,.int .i64 C1,.int .i64 T1,.bool Y1,.int .i64 S1,u1,u2,u3,u4,u5]] w λe w'=>e=.returned (.bool true)/\Below w.heap.size w w':=by
 obtain⟨a1,-,-,c1,rfl,-⟩:=h1.form
 obtain⟨b1,-,-,d1,rfl,-⟩:=g1.form
 replace h1:=Lib.hid h1
 replace g1:=Lib.hid g1
 generalize hm1:x1.length=m1 at*
 obtain⟨a2,-,-,c2,rfl,-⟩:=h2.form
 obtain⟨b2,-,-,d2,rfl,-⟩:=g2.form
 replace h2:=Lib.hid h2
 replace g2:=Lib.hid g2
 generalize hm2:x2.length=m2 at*
 obtain⟨a3,-,-,c3,rfl,-⟩:=h3.form
 obtain⟨b3,-,-,d3,rfl,-⟩:=g3.form
 replace h3:=Lib.hid h3
 replace g3:=Lib.hid g3
 generalize hm3:x3.length=m3 at*
 obtain⟨a4,-,-,c4,rfl,-⟩:=h4.form
 obtain⟨b4,-,-,d4,rfl,-⟩:=g4.form
 replace h4:=Lib.hid h4
 replace g4:=Lib.hid g4
 generalize hm4:x4.length=m4 at*
 obtain⟨a5,-,-,c5,rfl,-⟩:=h5.form
 obtain⟨b5,-,-,d5,rfl,-⟩:=g5.form
 replace h5:=Lib.hid h5
 replace g5:=Lib.hid g5
 generalize hm5:x5.length=m5 at*
 go_enter (par.ac3 (H:=par.Hm)),Tryz.ntmps16
 go_wp2_with fail
 have K1:aW ((w.alloc (.cells #[Value.int .u64 B1,.int .i64 C1,.int .i64 T1,.bool Y1,.int .i64 S1,.slice a1 m1 c1,.slice a2 m2 c2,.slice a3 m3 c3,.slice a4 m4 c4,.slice a5 m5 c5] 34)).alloc (.cells #[Value.int .u64 B1,.int .i64 C1,.int .i64 T1,.bool Y1,.int .i64 S1,.slice b1 m1 d1,.slice b2 m2 d2,.slice b3 m3 d3,.slice b4 m4 d4,.slice b5 m5 d5] 34)) w.heap.size #[Value.int .u64 B1,.int .i64 C1,.int .i64 T1,.bool Y1,.int .i64 S1,.slice a1 m1 c1,.slice a2 m2 c2,.slice a3 m3 c3,.slice a4 m4 c4,.slice a5 m5 c5] 34:=bk
 have K2:aW ((w.alloc (.cells #[Value.int .u64 B1,.int .i64 C1,.int .i64 T1,.bool Y1,.int .i64 S1,.slice a1 m1 c1,.slice a2 m2 c2,.slice a3 m3 c3,.slice a4 m4 c4,.slice a5 m5 c5] 34)).alloc (.cells #[Value.int .u64 B1,.int .i64 C1,.int .i64 T1,.bool Y1,.int .i64 S1,.slice b1 m1 d1,.slice b2 m2 d2,.slice b3 m3 d3,.slice b4 m4 d4,.slice b5 m5 d5] 34)) (w.heap.size+1) #[Value.int .u64 B1,.int .i64 C1,.int .i64 T1,.bool Y1,.int .i64 S1,.slice b1 m1 d1,.slice b2 m2 d2,.slice b3 m3 d3,.slice b4 m4 d4,.slice b5 m5 d5] 34:=bk
 have kW:Below w.heap.size w ((w.alloc (.cells #[Value.int .u64 B1,.int .i64 C1,.int .i64 T1,.bool Y1,.int .i64 S1,.slice a1 m1 c1,.slice a2 m2 c2,.slice a3 m3 c3,.slice a4 m4 c4,.slice a5 m5 c5] 34)).alloc (.cells #[Value.int .u64 B1,.int .i64 C1,.int .i64 T1,.bool Y1,.int .i64 S1,.slice b1 m1 d1,.slice b2 m2 d2,.slice b3 m3 d3,.slice b4 m4 d4,.slice b5 m5 d5] 34)):=bm
 generalize(w.alloc (.cells #[Value.int .u64 B1,.int .i64 C1,.int .i64 T1,.bool Y1,.int .i64 S1,.slice a1 m1 c1,.slice a2 m2 c2,.slice a3 m3 c3,.slice a4 m4 c4,.slice a5 m5 c5] 34)).alloc (.cells #[Value.int .u64 B1,.int .i64 C1,.int .i64 T1,.bool Y1,.int .i64 S1,.slice b1 m1 d1,.slice b2 m2 d2,.slice b3 m3 d3,.slice b4 m4 d4,.slice b5 m5 d5] 34)=W at*
 have HK:Hid (∀W':World,Below W.heap.size W W'->(∀i,W'.cell? ⟨w.heap.size,i,none⟩= #[Value.int .u64 B1,.int .i64 C1,.int .i64 T1,.bool Y1,.int .i64 S1,.slice a1 m1 c1,.slice a2 m2 c2,.slice a3 m3 c3,.slice a4 m4 c4,.slice a5 m5 c5][i]?)/\∀i,W'.cell? ⟨w.heap.size+1,i,none⟩= #[Value.int .u64 B1,.int .i64 C1,.int .i64 T1,.bool Y1,.int .i64 S1,.slice b1 m1 d1,.slice b2 m2 d2,.slice b3 m3 d3,.slice b4 m4 d4,.slice b5 m5 d5][i]?):=Lib.hid λW' h=>⟨(K1.tr h).get.2.1,(K2.tr h).get.2.1⟩
 replace h1:=Lib.hid (h1.out.tr kW)
 replace g1:=Lib.hid (g1.out.tr kW)
 replace h2:=Lib.hid (h2.out.tr kW)
 replace g2:=Lib.hid (g2.out.tr kW)
 replace h3:=Lib.hid (h3.out.tr kW)
 replace g3:=Lib.hid (g3.out.tr kW)
 replace h4:=Lib.hid (h4.out.tr kW)
 replace g4:=Lib.hid (g4.out.tr kW)
 replace h5:=Lib.hid (h5.out.tr kW)
 replace g5:=Lib.hid (g5.out.tr kW)
 have k0:Below W.heap.size W W:=Below.refl _ _
 refine bZ 5 ?_
 unfold roll
 go_wp2_with fail
 go_upto_region 6 with(fail)
 refine wp_region_held_drew (S:=(λW'=>(∀i,W'.cell? ⟨w.heap.size,i,none⟩= #[Value.int .u64 B1,.int .i64 C1,.int .i64 T1,.bool Y1,.int .i64 S1,.slice a1 m1 c1,.slice a2 m2 c2,.slice a3 m3 c3,.slice a4 m4 c4,.slice a5 m5 c5][i]?)/\∀i,W'.cell? ⟨w.heap.size+1,i,none⟩= #[Value.int .u64 B1,.int .i64 C1,.int .i64 T1,.bool Y1,.int .i64 S1,.slice b1 m1 d1,.slice b2 m2 d2,.slice b3 m3 d3,.slice b4 m4 d4,.slice b5 m5 d5][i]?)) (by kernel_rfl) ?_ (λhHeld=> ?_)
 ·(try dsimp only);exact HK.out _ (aP k0 bm)
 refine tk 0 ?_
 refine tk 1 ?_
 refine tk 3 ?_
 refine tk 4 ?_
 refine co 2 λK hK=> ?_
 go_simp
 go_at_call 37;refine(Ld _ _ _ _ _ _ _ _ _ _ _ _ _ _ _ _ _ _ _ _ _).mono ?_;rintro e wa ⟨rfl,ka⟩;go_wp2_with fail
 refine hK.out _ _ ?_ (λhHeld=> ?_)
 ·(try dsimp only);exact HK.out _ (aP k0 bm)
 clear hK K
 refine nx ?_
 refine co 5 λK hK=> ?_
 go_simp
 go_at_call 37;refine(Ld _ _ _ _ _ _ _ _ _ _ _ _ _ _ _ _ _ _ _ _ _).mono ?_;rintro e wb ⟨rfl,kb⟩;go_wp2_with fail
 refine hK.out _ _ ?_ (λhHeld=> ?_)
 ·(try dsimp only);exact HK.out _ (aP k0 bm)
 clear hK K
 refine nx ?_
 refine co 6 λK hK=> ?_
 go_simp
 go_at_call 22;refine(je _ _ _ _ (h1.out.tr (aP k0 bm)) (g1.out.tr (aP k0 bm)) (by rw[hm1];exact l1)).mono ?_;rintro e w1 ⟨rfl,kc⟩;go_wp2_with fail
 refine hK.out _ _ ?_ (λhHeld=> ?_)
 ·(try dsimp only);exact HK.out _ (aP k0 bm)
 clear hK K
 refine nx ?_
 refine tk 7 ?_
 refine wpAnyH_done (by kernel_rfl) ?_ _
 have k1:=aP k0 (show Below _ _ w1 from bm)
 clear ka kb kc
 go_wp2_with fail
 unfold roll
 go_wp2_with fail
 go_upto_region 6 with(fail)
 refine wp_region_held_drew (S:=(λW'=>(∀i,W'.cell? ⟨w.heap.size,i,none⟩= #[Value.int .u64 B1,.int .i64 C1,.int .i64 T1,.bool Y1,.int .i64 S1,.slice a1 m1 c1,.slice a2 m2 c2,.slice a3 m3 c3,.slice a4 m4 c4,.slice a5 m5 c5][i]?)/\∀i,W'.cell? ⟨w.heap.size+1,i,none⟩= #[Value.int .u64 B1,.int .i64 C1,.int .i64 T1,.bool Y1,.int .i64 S1,.slice b1 m1 d1,.slice b2 m2 d2,.slice b3 m3 d3,.slice b4 m4 d4,.slice b5 m5 d5][i]?)) (by kernel_rfl) ?_ (λhHeld=> ?_)
 ·(try dsimp only);exact HK.out _ (aP k1 bm)
 refine tk 0 ?_
 refine tk 1 ?_
 refine tk 3 ?_
 refine tk 4 ?_
 refine co 2 λK hK=> ?_
 go_simp
 go_at_call 37;refine(Le _ _ _ _ _ _ _ _ _ _ _ _ _ _ _ _ _ _ _ _ _).mono ?_;rintro e wa ⟨rfl,ka⟩;go_wp2_with fail
 refine hK.out _ _ ?_ (λhHeld=> ?_)
 ·(try dsimp only);exact HK.out _ (aP k1 bm)
 clear hK K
 refine nx ?_
 refine co 5 λK hK=> ?_
 go_simp
 go_at_call 37;refine(Le _ _ _ _ _ _ _ _ _ _ _ _ _ _ _ _ _ _ _ _ _).mono ?_;rintro e wb ⟨rfl,kb⟩;go_wp2_with fail
 refine hK.out _ _ ?_ (λhHeld=> ?_)
 ·(try dsimp only);exact HK.out _ (aP k1 bm)
 clear hK K
 refine nx ?_
 refine co 6 λK hK=> ?_
 go_simp
 go_at_call 22;refine(je _ _ _ _ (h2.out.tr (aP k1 bm)) (g2.out.tr (aP k1 bm)) (by rw[hm2];exact l2)).mono ?_;rintro e w2 ⟨rfl,kc⟩;go_wp2_with fail
 refine hK.out _ _ ?_ (λhHeld=> ?_)
 ·(try dsimp only);exact HK.out _ (aP k1 bm)
 clear hK K
 refine nx ?_
 refine tk 7 ?_
 refine wpAnyH_done (by kernel_rfl) ?_ _
 have k2:=aP k1 (show Below _ _ w2 from bm)
 clear ka kb kc
 go_wp2_with fail
 unfold roll
 go_wp2_with fail
 go_upto_region 6 with(fail)
 refine wp_region_held_drew (S:=(λW'=>(∀i,W'.cell? ⟨w.heap.size,i,none⟩= #[Value.int .u64 B1,.int .i64 C1,.int .i64 T1,.bool Y1,.int .i64 S1,.slice a1 m1 c1,.slice a2 m2 c2,.slice a3 m3 c3,.slice a4 m4 c4,.slice a5 m5 c5][i]?)/\∀i,W'.cell? ⟨w.heap.size+1,i,none⟩= #[Value.int .u64 B1,.int .i64 C1,.int .i64 T1,.bool Y1,.int .i64 S1,.slice b1 m1 d1,.slice b2 m2 d2,.slice b3 m3 d3,.slice b4 m4 d4,.slice b5 m5 d5][i]?)) (by kernel_rfl) ?_ (λhHeld=> ?_)
 ·(try dsimp only);exact HK.out _ (aP k2 bm)
 refine tk 0 ?_
 refine tk 1 ?_
 refine tk 3 ?_
 refine tk 4 ?_
 refine co 2 λK hK=> ?_
 go_simp
 go_at_call 37;refine(Lh _ _ _ _ _ _ _ _ _ _ _ _ _ _ _ _ _ _ _ _ _).mono ?_;rintro e wa ⟨rfl,ka⟩;go_wp2_with fail
 refine hK.out _ _ ?_ (λhHeld=> ?_)
 ·(try dsimp only);exact HK.out _ (aP k2 bm)
 clear hK K
 refine nx ?_
 refine co 5 λK hK=> ?_
 go_simp
 go_at_call 37;refine(Lh _ _ _ _ _ _ _ _ _ _ _ _ _ _ _ _ _ _ _ _ _).mono ?_;rintro e wb ⟨rfl,kb⟩;go_wp2_with fail
 refine hK.out _ _ ?_ (λhHeld=> ?_)
 ·(try dsimp only);exact HK.out _ (aP k2 bm)
 clear hK K
 refine nx ?_
 refine co 6 λK hK=> ?_
 go_simp
 go_at_call 22;refine(je _ _ _ _ (h3.out.tr (aP k2 bm)) (g3.out.tr (aP k2 bm)) (by rw[hm3];exact l3)).mono ?_;rintro e w3 ⟨rfl,kc⟩;go_wp2_with fail
 refine hK.out _ _ ?_ (λhHeld=> ?_)
 ·(try dsimp only);exact HK.out _ (aP k2 bm)
 clear hK K
 refine nx ?_
 refine tk 7 ?_
 refine wpAnyH_done (by kernel_rfl) ?_ _
 have k3:=aP k2 (show Below _ _ w3 from bm)
 clear ka kb kc
 go_wp2_with fail
 unfold roll
 go_wp2_with fail
 go_upto_region 6 with(fail)
 refine wp_region_held_drew (S:=(λW'=>(∀i,W'.cell? ⟨w.heap.size,i,none⟩= #[Value.int .u64 B1,.int .i64 C1,.int .i64 T1,.bool Y1,.int .i64 S1,.slice a1 m1 c1,.slice a2 m2 c2,.slice a3 m3 c3,.slice a4 m4 c4,.slice a5 m5 c5][i]?)/\∀i,W'.cell? ⟨w.heap.size+1,i,none⟩= #[Value.int .u64 B1,.int .i64 C1,.int .i64 T1,.bool Y1,.int .i64 S1,.slice b1 m1 d1,.slice b2 m2 d2,.slice b3 m3 d3,.slice b4 m4 d4,.slice b5 m5 d5][i]?)) (by kernel_rfl) ?_ (λhHeld=> ?_)
 ·(try dsimp only);exact HK.out _ (aP k3 bm)
 refine tk 0 ?_
 refine tk 1 ?_
 refine tk 3 ?_
 refine tk 4 ?_
 refine co 2 λK hK=> ?_
 go_simp
 go_at_call 37;refine(Lj _ _ _ _ _ _ _ _ _ _ _ _ _ _ _ _ _ _ _ _ _).mono ?_;rintro e wa ⟨rfl,ka⟩;go_wp2_with fail
 refine hK.out _ _ ?_ (λhHeld=> ?_)
 ·(try dsimp only);exact HK.out _ (aP k3 bm)
 clear hK K
 refine nx ?_
 refine co 5 λK hK=> ?_
 go_simp
 go_at_call 37;refine(Lj _ _ _ _ _ _ _ _ _ _ _ _ _ _ _ _ _ _ _ _ _).mono ?_;rintro e wb ⟨rfl,kb⟩;go_wp2_with fail
 refine hK.out _ _ ?_ (λhHeld=> ?_)
 ·(try dsimp only);exact HK.out _ (aP k3 bm)
 clear hK K
 refine nx ?_
 refine co 6 λK hK=> ?_
 go_simp
 go_at_call 22;refine(je _ _ _ _ (h4.out.tr (aP k3 bm)) (g4.out.tr (aP k3 bm)) (by rw[hm4];exact l4)).mono ?_;rintro e w4 ⟨rfl,kc⟩;go_wp2_with fail
 refine hK.out _ _ ?_ (λhHeld=> ?_)
 ·(try dsimp only);exact HK.out _ (aP k3 bm)
 clear hK K
 refine nx ?_
 refine tk 7 ?_
 refine wpAnyH_done (by kernel_rfl) ?_ _
 have k4:=aP k3 (show Below _ _ w4 from bm)
 clear ka kb kc
 go_wp2_with fail
 unfold roll
 go_wp2_with fail
 refine(je _ _ _ _ (h5.out.tr k4) (g5.out.tr k4) (by rw[hm5];exact l5)).mono ?_;rintro e w5 ⟨rfl,k5⟩
 have kk:=aP kW (aP k4 k5)
 go_wp2_with fail
 go_ret
 exact⟨rfl,kk⟩
end Go.Proofs.YtlncengggmgdgaaGreat.aw
