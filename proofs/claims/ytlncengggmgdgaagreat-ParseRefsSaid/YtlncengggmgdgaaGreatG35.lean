/- awake of the parse laws, in plain numbers. LONE=M. No conditions. -/
import Derived.Test.YtlncengggmgdgaaGreatG22
import Derived.Test.YtlncengggmgdgaaGreatG31
import Derived.Test.YtlncengggmgdgaaGreatG34
import Derived.Test.YtlncengggmgdgaaGreatG30
set_option linter.unusedVariables false
set_option linter.unusedSimpArgs false
set_option maxRecDepth 100000
namespace Go.Proofs.YtlncengggmgdgaaGreat.aw
open Go Go.RowKit ob
open fr (lX gQ jq jB aa7 vk Fine DC)
open ps (iR Ie Ud PH rZ nD iG L0)
attribute [local irreducible] par.ah
theorem Ll{s:ByteArray}{fs:List lX}(h:gQ s=(fs,0))(hl:fs.length=6)(hi:∀i:Nat,i<6->(fs.getD i (0,⟨#[]⟩)).1=(i:Int)+1):iR s=Ie fs:=by
 unfold iR
 rw[h]
 dsimp only
 rw[if_pos rfl,if_pos hl,if_pos hi]
def hD:PH:=⟨10,5,0,0,2,[2,6],[],[],[],[21]⟩
theorem Lm:Fine sD:=by unfold Fine sD;decide
theorem ajO:iR (jB sD)=.ok hD:=(Ll (vk Lm) rfl (by unfold sD;decide)).trans (by kernel_rfl)
theorem ajP:iR ⟨#[]⟩=.er 3:=by
 have h:=vk (fs:=[]) (λf hf=>by cases hf)
 unfold iR
 rw[show(⟨#[]⟩:ByteArray)=jB []from rfl,h]
 rfl
theorem QH:(jB sD).size=59:=by kernel_rfl
theorem ajQ:iR ((jB sD).extract 0 58)=.er 2:=by
 unfold iR
 rw[DC Lm (k:=58) (by rw[QH];decide) (λi hi=> ?_)]
 ·rfl
 ·have:∀i:Nat,i<7->¬(jB (sD.take i)).size=58:=by decide+kernel
  exact this i (by have:sD.length=6:=rfl;omega)
def fsE:List lX:=(1,⟨#[2,10,5,0,0,2]⟩)::sD.drop 1
theorem ajR:UH (sD.map (·.2)) 0 ⟨#[2,10,5,0,0,2]⟩=fsE:=by kernel_rfl
theorem ach:Fine fsE:=by unfold Fine fsE sD;decide
theorem ajS:iR (jB fsE)=.er 5:=(Ll (vk ach) rfl (by unfold fsE sD;decide)).trans (by kernel_rfl)
theorem ahj:iG (cw.au ⟨#[0,5]⟩) 2 0=.ok [0,11] 2:=by kernel_rfl
theorem ajT:nD L0 [] (cw.au ⟨#[1,0,1,1,5]⟩) 9=.ok [131074,11] 5:=by kernel_rfl
theorem ajU:nD L0 [] (cw.au ⟨#[1,0,1,1,5]⟩) 1=.er 3:=by kernel_rfl
end Go.Proofs.YtlncengggmgdgaaGreat.aw
namespace Go.Proofs.YtlncengggmgdgaaGreat.aw
open Go Go.RowKit gr hd lx ob hp
open fr (lX gQ jq jB aa7 vk)
open ps
open cw (au)
attribute [local irreducible] par.ah
set_option maxHeartbeats 4000000
theorem Yw(s:ByteArray)(c:Nat)(hs:s.size<10000000000)(hi:iR s=.er c)(w:World):Calls (par.ah par.Hm) 14 #[.string s] w λe w'=>e=.returned (.tuple #[.agg #[.int .u64 0,.int .i64 0,.int .i64 0,.bool false,.int .i64 0,.slice none 0 0,.slice none 0 0,.slice none 0 0,.slice none 0 0,.slice none 0 0],.int .i64 (c:Int)])/\Below w.heap.size w w':=by
 refine(parse_any s w hs).mono ?_
 rw[hi]
 rintro e w' ⟨k,h⟩
 exact⟨h,k⟩
theorem aci:L0.ok:=⟨⟨by decide,by decide⟩,⟨by decide,by decide⟩,⟨by decide,by decide⟩,⟨by decide,by decide⟩,⟨by decide,by decide⟩,⟨by decide,by decide⟩,by decide,by decide⟩
theorem AA{w:World}{b n:Nat}{cs:Array Value}{T:TypeId}(zs:List Int)(h:aW w b cs T)(hc:cs.toList=zs.flatMap nH)(hn:zs.length=n)(h63:n<1000000):jc 1 nH w (.slice (some ⟨b,0,none⟩) n n) zs:=by
 subst hn
 refine jc.mk rfl (λ_=>rfl) (λe=>by cases e) (Nat.le_refl _) (by omega) (λ_=>h.lt) (λi j x y hx hy=> ?_)
 have e:=flat_get (hk:=aN) zs i j x y hx hy
 rw[h.get.2.1,Nat.zero_add,<-Array.getElem?_toList,hc]
 exact e
theorem Lp(w:World):Calls (par.ah par.Hm) 6 #[] w λe w'=>e=.returned (.bool true)/\Below w.heap.size w w'/\0<w'.heap.size:=by
 have hR:=aa7 Lm
 have HD:=Lib.hid λb b2 W hb hc=>abB b b2 W hb hc
 have HP1:=Lib.hid λW=>parse_any (jB sD) W (by rw[QH];decide)
 have HP2:=Lib.hid λW=>Yw ⟨#[]⟩ 3 (by decide) ajP W
 have h58:((jB sD).extract 0 58).size<=58:=by rw[ByteArray.size_extract];omega
 have HP3:=Lib.hid λW=>Yw ((jB sD).extract 0 58) 2 (by omega) ajQ W
 have HB:=Lib.hid λW=>OQ (jB sD) W (by rw[QH];decide) (by rw[vk Lm];decide)
 have HJ:=Lib.hid λv W h=>Ut v (sD.map (λf:lX=>f.2)) 0 ⟨#[2,10,5,0,0,2]⟩ W h (by decide) (by decide) (by decide) (by decide) (by decide)
 have HP4:=Lib.hid λW=>Yw (jB fsE) 5 (by rw[show(jB fsE).size=59 from by kernel_rfl];decide) ajS W
 have HT:=Lib.hid λW=>jY ⟨#[0,5]⟩ 0 2 W (by decide) (by decide) (by decide)
 have LC:=Lib.hid λW(hz:0<W.heap.size)=>qI ⟨#[1,0,1,1,5]⟩ 9 W L0 [] none 0 0 0 (by decide) (by decide) (by decide) aci (λh=>by cases h) (Nat.le_refl _) (by decide) hz (fZ.none _ _ _ _)
 have Oz:=Lib.hid λW(hz:0<W.heap.size)=>qI ⟨#[1,0,1,1,5]⟩ 1 W L0 [] none 0 0 0 (by decide) (by decide) (by decide) aci (λh=>by cases h) (Nat.le_refl _) (by decide) hz (fZ.none _ _ _ _)
 rw[hR]at HD
 rw[ajO]at HP1
 rw[vk Lm]at HB
 rw[ajR,aa7 ach]at HJ
 rw[ahj]at HT
 rw[ajT]at LC
 rw[ajU]at Oz
 dsimp only at HD HB HJ
 unfold kP L0 at LC Oz
 dsimp only at LC Oz
 have hsz:((jB sD).size:Int)=59:=by rw[QH];rfl
 have amO:IntKind.i64.wrap 58=58:=rfl
 generalize jB sD=D at*
 generalize jB fsE=E at*
 clear hR h58
 go_enter (par.afi (H:=par.Hm)),Tryz.ntmps6
 go_wp2_with fail
 refine(HD.out _ _ _ bk bk).mono ?_;rintro e w1 ⟨rfl,k1⟩
 go_wp2_with fail
 refine(HP1.out _).mono ?_;rintro e w2 ⟨k2,v,rfl,hv⟩
 obtain⟨lv,hvv,ov,fv,rv,rfl,o1,o2,o3,o4,o5⟩:=hv
 unfold hD at*
 dsimp only at*
 obtain⟨pa,pc,e1,-⟩:=o1.form aN
 obtain⟨qa,qc,e2,-⟩:=o2.form aN
 obtain⟨ra,rc,e3,-⟩:=o3.form aN
 obtain⟨sa,sc,e4,-⟩:=o4.form aN
 obtain⟨ta,tc,e5,-⟩:=o5.form aN
 have e1:lv=.slice pa 2 pc:=e1
 have e2:hvv=.slice qa 0 qc:=e2
 have e3:ov=.slice ra 0 rc:=e3
 have e4:fv=.slice sa 0 sc:=e4
 have e5:rv=.slice ta 1 tc:=e5
 subst e1 e2 e3 e4 e5
 have KB1:aW w2 w.heap.size #[.int .u64 2,.int .u64 6] 24:=bk
 have KB2:aW w2 (w.heap.size+1) #[.int .u64 21] 24:=bk
 have KH:aW w2 (w.heap.size+1+1) #[.int .u64 10,.int .i64 5,.int .i64 0,.bool false,.int .i64 2,.slice (some ⟨w.heap.size,0,none⟩) 2 2,.slice none 0 0,.slice none 0 0,.slice none 0 0,.slice (some ⟨w.heap.size+1,0,none⟩) 1 1] 34:=bk
 have R1:=Lib.hid (o1.sees aN)
 have R2:=Lib.hid (o2.sees aN)
 have R3:=Lib.hid (o3.sees aN)
 have R4:=Lib.hid (o4.sees aN)
 have R5:=Lib.hid (o5.sees aN)
 have bW:Below w.heap.size w w2:=bm
 clear k1 k2 o1 o2 o3 o4 o5
 have KG:aW (w2.alloc (.cells #[.int .u64 10,.int .i64 5,.int .i64 0,.bool false,.int .i64 2,.slice pa 2 pc,.slice qa 0 qc,.slice ra 0 rc,.slice sa 0 sc,.slice ta 1 tc] 34)) w2.heap.size #[.int .u64 10,.int .i64 5,.int .i64 0,.bool false,.int .i64 2,.slice pa 2 pc,.slice qa 0 qc,.slice ra 0 rc,.slice sa 0 sc,.slice ta 1 tc] 34:=aW.new _ _ _
 have hpos:0<w2.heap.size:=Nat.lt_of_le_of_lt (Nat.zero_le _) KB1.lt
 go_wp2_with fail
 refine(HP2.out _).mono ?_;rintro e w3 ⟨rfl,k3⟩
 have q3:Below w2.heap.size w2 w3:=bm
 replace KG:=KG.tr k3
 clear k3
 go_wp2_with fail
 refine(HP3.out _).mono ?_;rintro e w4 ⟨rfl,k4⟩
 have q4:Below w2.heap.size w2 w4:=bm
 replace KG:=(KG.alloc _).tr k4
 clear q3 k4
 go_wp2_with fail
 refine(HB.out _).mono ?_;rintro e w5 ⟨bv,rfl,hb,k5⟩
 have q5:Below w2.heap.size w2 w5:=bm
 replace KG:=(KG.alloc _).tr k5
 clear q4 k5
 have hbs:=hb.sees (λ_=>rfl)
 go_wp2_with fail
 refine(HJ.out _ _ hbs).mono ?_;rintro e w6 ⟨rfl,k6⟩
 have q6:Below w2.heap.size w2 w6:=bm
 replace KG:=KG.tr k6
 clear q5 k6
 go_wp2_with fail
 refine(HP4.out _).mono ?_;rintro e w7 ⟨rfl,k7⟩
 have q7:Below w2.heap.size w2 w7:=bm
 replace KG:=KG.tr k7
 clear q6 k7
 go_wp2_with fail
 refine(HT.out _).mono ?_;rintro e w8 ⟨k8,rv8,rfl,hr8⟩
 have q8:Below w2.heap.size w2 w8:=bm
 replace KG:=(KG.alloc _).tr k8
 clear q7 k8
 have S8:=Lib.hid (hr8.sees aN)
 obtain⟨xa,xc,e8,-⟩:=hr8.form aN
 have e8:rv8=.slice xa 2 xc:=e8
 subst e8
 clear hr8 hb hbs
 go_wp2_with fail
 refine(LC.out _ (Nat.lt_of_lt_of_le hpos q8.size)).mono ?_;rintro e w9 ⟨k9,rv9,rfl,hr9⟩
 have q9:Below w2.heap.size w2 w9:=bm
 replace KG:=KG.tr k9
 replace S8:=Lib.hid (S8.out.tr k9)
 have S9:=Lib.hid (hr9.sees aN)
 clear q8 k9
 obtain⟨ya,yc,e9,-⟩:=hr9.form aN
 have e9:rv9=.slice ya 2 yc:=e9
 subst e9
 clear hr9
 go_wp2_with fail
 refine(Oz.out _ (Nat.lt_of_lt_of_le hpos q9.size)).mono ?_;rintro e wa ⟨ka,rfl⟩
 have Yx:Below w2.heap.size w2 wa:=bm
 replace KG:=KG.tr ka
 replace S8:=Lib.hid (S8.out.tr ka)
 replace S9:=Lib.hid (S9.out.tr ka)
 clear q9 ka
 have KHa:=KH.tr Yx
 obtain⟨lH,cH,fH⟩:=KHa.get
 obtain⟨lG,cG,fG⟩:=KG.get
 go_wp2_with fail
 refine(Uu 10 5 0 2 false _ _ _ _ _ _ _ _ _ _ [2,6] [] [] [] [21] _ (R1.out.tr Yx) (R2.out.tr Yx) (R3.out.tr Yx) (R4.out.tr Yx) (R5.out.tr Yx) (AA _ (KB1.tr Yx) rfl rfl (by decide)) jc.nil jc.nil jc.nil (AA _ (KB2.tr Yx) rfl rfl (by decide)) (by decide) (by decide) (by decide) (by decide) (by decide)).mono ?_;rintro e wb ⟨rfl,kb⟩
 replace S8:=Lib.hid (S8.out.tr kb)
 replace S9:=Lib.hid (S9.out.tr kb)
 have bb:Below w.heap.size w wb:=aP (aP bW Yx) kb
 have hz:=Nat.lt_of_lt_of_le hpos (aP Yx kb).size
 clear lH cH fH lG cG fG KG KHa KH Yx kb R1 R2 R3 R4 R5 KB1 KB2
 go_wp2_with fail
 refine(je _ _ [0,11] _ (S8.out.alloc _) (AA _ (aW.new _ _ _) rfl rfl (by decide)) (by decide)).mono ?_;rintro e wc ⟨rfl,kc⟩
 replace S9:=Lib.hid ((S9.out.alloc _).tr kc)
 replace bb:=aP (jU bb _) kc
 replace hz:0<wc.heap.size:=by have:=kc.size;simp at this;omega
 clear kc S8
 go_wp2_with fail
 refine(je _ _ [131074,11] _ (S9.out.alloc _) (AA _ (aW.new _ _ _) rfl rfl (by decide)) (by decide)).mono ?_;rintro e wd ⟨rfl,kd⟩
 replace bb:=aP (jU bb _) kd
 replace hz:0<wd.heap.size:=by have:=kd.size;simp at this;omega
 clear kd S9
 go_wp2_with fail
 go_ret
 exact⟨rfl,bb,hz⟩
end Go.Proofs.YtlncengggmgdgaaGreat.aw
