/- awake of the parse laws: the document's layers 7, 10, 11 on chapter 19's heap. LONE=M. No conditions. -/
import Derived.Test.YtlncengggmgdgaaGreatG22
import Derived.Test.YtlncengggmgdgaaGreatLu
import Derived.Test.YtlncengggmgdgaaGreatTk
import Derived.RegionTactic
import Derived.Deep.QuietTactic
import Derived.Deep.RegionWith
import Derived.BigQuiet
import Derived.WalkSmall
import Derived.Deep.CutBlock
import Derived.Deep.DeepCutAuto
import Derived.Deep.CutRange
import Derived.Test.YtlncengggmgdgaaGreatG25
set_option linter.unusedVariables false
set_option linter.unusedSimpArgs false
set_option maxRecDepth 100000
namespace Go.Proofs.YtlncengggmgdgaaGreat.aw
open Go Go.RowKit gr hd lx
attribute [local irreducible] par.ah
set_option maxHeartbeats 4000000
def roll(P:Program)(c:Code)(Q:Exit->Act->World->Prop):Nat->Act->World->Prop
 |0,_,_=>False
 |n+1,a,w=>c.wp P (Exit.then (roll P c Q n) Q) a w
theorem bZ{P:Program}{c:Code}{Q:Exit->Act->World->Prop}{a:Act}{w:World}(n:Nat)(h:roll P c Q n a w):(Code.loop c).wp P Q a w:=by
 intro b k cs
 have key:∀n a w,roll P c Q n a w->∃e a' w',Q e a' w'/\Arrives P (lone (b.at a (.code c:: .inLoop c::k)) cs w) b k cs e a' w':=by
  intro n
  induction n with
  |zero=>exactλa w h=>h.elim
  |succ n ih=>
   intro a w h
   obtain⟨e,a₁,w₁,hq,harr⟩:=h b (.inLoop c::k) cs
   cases e with
   |normal=>
    obtain⟨e₂,a₂,w₂,hq₂,harr₂⟩:=ih a₁ w₁ hq
    exact⟨e₂,a₂,w₂,hq₂,.of_steps (Steps.trans harr (.one step_inLoop)) harr₂⟩
   |_=>exact⟨_,a₁,w₁,hq,.pass (x:=.inLoop c) rfl (λ_ _=>.inl (by simp)) harr⟩
 obtain⟨e,a',w',hq,harr⟩:=key n a w h
 exact⟨e,a',w',hq,.of_steps (.one step_loop) harr⟩
theorem Yh(b b2:Nat)(w:World):Calls (par.ah par.Hm) 114 #[.agg #[.int .u64 10,.int .i64 5,.int .i64 0,.bool false,.int .i64 2,.slice (some ⟨b,0,none⟩) 2 2,.slice none 0 0,.slice none 0 0,.slice none 0 0,.slice (some ⟨b2,0,none⟩) 1 1]] w λe w'=>e=.returned (.agg #[.int .u64 10,.int .i64 5,.int .i64 0,.int .i64 2,.int .i64 0,.int .i64 0,.int .i64 0])/\Below w.heap.size w w':=by
 go_enter (par.ZO (H:=par.Hm)),Tryz.ntmps114
 go_wp2_with fail
 exact bodyPost_ret (v:=.agg #[.int .u64 10,.int .i64 5,.int .i64 0,.int .i64 2,.int .i64 0,.int .i64 0,.int .i64 0]) (by simp only[results,Tryz.results114];go_simp) rfl ⟨rfl,bm⟩
theorem QE(w:World):Calls (par.ah par.Hm) 115 #[.agg #[.int .u64 10,.int .i64 5,.int .i64 0,.int .i64 2,.int .i64 0,.int .i64 0,.int .i64 0]] w λe w'=>e=.returned (.bool true)/\Below w.heap.size w w':=by
 go_enter (par.ZQ (H:=par.Hm)),Tryz.ntmps115
 go_wp2_with fail
 go_ret
 exact⟨rfl,bm⟩
theorem Yi(w:World):Calls (par.ah par.Hm) 133 #[.agg #[.int .u64 10,.int .i64 5,.int .i64 0,.int .i64 2,.int .i64 0,.int .i64 0,.int .i64 0],.int .i64 1] w λe w'=>e=.returned (.tuple #[.int .u64 10,.int .i64 2])/\Below w.heap.size w w':=by
 go_enter (par.Z4 (H:=par.Hm)),Tryz.ntmps133
 go_wp2_with fail
 go_quiet (fail)
 go_wp2_with fail
 go_ret2
 exact⟨rfl,bm⟩
theorem aez(w:World):Calls (par.ah par.Hm) 113 #[.agg #[.int .u64 10,.int .i64 5,.int .i64 0,.int .i64 2,.int .i64 0,.int .i64 0,.int .i64 0],.agg #[.int .i64 1,.int .i64 0]] w λe w'=>e=.returned (.tuple #[.int .u64 10,.int .i64 0])/\Below w.heap.size w w':=by
 go_enter (par.ZN (H:=par.Hm)),Tryz.ntmps113
 go_wp2_with fail
 refine(QE _).mono ?_;rintro e w1 ⟨rfl,k1⟩
 have KL:aW w1 (w.heap.size) (#[.int .u64 10,.int .i64 5,.int .i64 0,.int .i64 2,.int .i64 0,.int .i64 0,.int .i64 0]) 30:=bk
 obtain⟨lL,cL,fL⟩:=KL.get
 have KP:aW w1 (w.heap.size+1) (#[.int .i64 1,.int .i64 0]) 130:=bk
 obtain⟨lP,cP,fP⟩:=KP.get
 go_wp2_with fail
 refine(Yi _).mono ?_;rintro e w2 ⟨rfl,k2⟩
 have KP:aW w2 (w.heap.size+1) (#[.int .i64 1,.int .i64 0]) 130:=bk
 obtain⟨lP,cP,fP⟩:=KP.get
 go_wp2_with fail
 go_ret2
 exact⟨rfl,bm⟩
theorem Yj(b b2:Nat)(w:World):Calls (par.ah par.Hm) 79 #[.agg #[.int .u64 10,.int .i64 5,.int .i64 0,.bool false,.int .i64 2,.slice (some ⟨b,0,none⟩) 2 2,.slice none 0 0,.slice none 0 0,.slice none 0 0,.slice (some ⟨b2,0,none⟩) 1 1],.int .i64 1,.int .i64 0] w λe w'=>e=.returned (.int .u64 10)/\Below w.heap.size w w':=by
 go_enter (par.adA (H:=par.Hm)),Tryz.ntmps79
 go_wp2_with fail
 refine(Yh b b2 _).mono ?_;rintro e w1 ⟨rfl,k1⟩
 go_wp2_with fail
 refine(aez _).mono ?_;rintro e w2 ⟨rfl,k2⟩
 go_wp2_with fail
 go_ret
 exact⟨rfl,bm⟩
def L1(w:World)(bo fo cz:Nat):Prop:=(1<=cz/\cz<9223372036854775808/\bo<w.heap.size)/\w.cell? ⟨bo,fo,none⟩=some (.int .i64 0)/\w.cell? ⟨bo,fo+1,none⟩=some (.int .i64 1)/\w.cell? ⟨bo,fo+2,none⟩=some (.int .i64 0)/\w.cell? ⟨bo,fo+3,none⟩=some (.bool false)/\w.cell? ⟨bo,fo+4,none⟩=some (.int .u64 0)
theorem L1.tr{w w':World}{bo fo cz:Nat}(h:L1 w bo fo cz)(k:Below w.heap.size w w'):L1 w' bo fo cz:=
 ⟨⟨h.1.1,h.1.2.1,Nat.lt_of_lt_of_le h.1.2.2 k.size⟩,aJ k h.2.1,aJ k h.2.2.1,aJ k h.2.2.2.1,aJ k h.2.2.2.2.1,aJ k h.2.2.2.2.2⟩
theorem aha(b b2 bo fo cz:Nat)(w:World)(h:L1 w bo fo cz):Calls (par.ah par.Hm) 117 #[.agg #[.int .u64 10,.int .i64 5,.int .i64 0,.bool false,.int .i64 2,.slice (some ⟨b,0,none⟩) 2 2,.slice none 0 0,.slice none 0 0,.slice none 0 0,.slice (some ⟨b2,0,none⟩) 1 1],.int .i64 1,.slice (some ⟨bo,fo,none⟩) 1 cz,.int .u64 10] w λe w'=>e=.returned (.tuple #[.agg #[.int .i64 0,.int .i64 1,.int .i64 0,.bool false,.int .u64 0],.bool true])/\Below w.heap.size w w':=by
 obtain⟨⟨h1,h2,h3⟩,c0,c1,c2,c3,c4⟩:=h
 go_enter (par.PX (H:=par.Hm)),Tryz.ntmps117
 go_wp2_with fail
 refine bZ 1 ?_
 unfold roll
 go_upto_region 4 with(fail)
 have K1:aW ((w.alloc (.cells #[Value.int .u64 10,.int .i64 5,.int .i64 0,.bool false,.int .i64 2,.slice (some ⟨b,0,none⟩) 2 2,.slice none 0 0,.slice none 0 0,.slice none 0 0,.slice (some ⟨b2,0,none⟩) 1 1] 34)).alloc (.cells #[.int .i64 0,.int .i64 0,.int .i64 0,.bool false,.int .u64 0] 56)) w.heap.size #[Value.int .u64 10,.int .i64 5,.int .i64 0,.bool false,.int .i64 2,.slice (some ⟨b,0,none⟩) 2 2,.slice none 0 0,.slice none 0 0,.slice none 0 0,.slice (some ⟨b2,0,none⟩) 1 1] 34:=bk
 have K2:aW ((w.alloc (.cells #[Value.int .u64 10,.int .i64 5,.int .i64 0,.bool false,.int .i64 2,.slice (some ⟨b,0,none⟩) 2 2,.slice none 0 0,.slice none 0 0,.slice none 0 0,.slice (some ⟨b2,0,none⟩) 1 1] 34)).alloc (.cells #[.int .i64 0,.int .i64 0,.int .i64 0,.bool false,.int .u64 0] 56)) (w.heap.size+1) _ 56:=aW.mk (by simp)
 have kW:Below w.heap.size w ((w.alloc (.cells #[Value.int .u64 10,.int .i64 5,.int .i64 0,.bool false,.int .i64 2,.slice (some ⟨b,0,none⟩) 2 2,.slice none 0 0,.slice none 0 0,.slice none 0 0,.slice (some ⟨b2,0,none⟩) 1 1] 34)).alloc (.cells #[.int .i64 0,.int .i64 0,.int .i64 0,.bool false,.int .u64 0] 56)):=bm
 generalize(w.alloc (.cells #[Value.int .u64 10,.int .i64 5,.int .i64 0,.bool false,.int .i64 2,.slice (some ⟨b,0,none⟩) 2 2,.slice none 0 0,.slice none 0 0,.slice none 0 0,.slice (some ⟨b2,0,none⟩) 1 1] 34)).alloc (.cells #[.int .i64 0,.int .i64 0,.int .i64 0,.bool false,.int .u64 0] 56)=W0 at*
 obtain⟨l1,d1,g1⟩:=K1.get
 have x0:=aJ kW c0
 have hx:bo<W0.heap.size:=Nat.lt_of_lt_of_le h3 kW.size
 have HK:Hid (∀W':World,Below W0.heap.size W0 W'->(∀i,W'.cell? ⟨w.heap.size,i,none⟩= #[Value.int .u64 10,.int .i64 5,.int .i64 0,.bool false,.int .i64 2,.slice (some ⟨b,0,none⟩) 2 2,.slice none 0 0,.slice none 0 0,.slice none 0 0,.slice (some ⟨b2,0,none⟩) 1 1][i]?)/\W'.cell? ⟨bo,fo,none⟩=some (.int .i64 0)):=Lib.hid λW' h=>⟨(K1.tr h).get.2.1,aJ h x0⟩
 go_region_held3 (λW'=>(∀i,W'.cell? ⟨w.heap.size,i,none⟩= #[Value.int .u64 10,.int .i64 5,.int .i64 0,.bool false,.int .i64 2,.slice (some ⟨b,0,none⟩) 2 2,.slice none 0 0,.slice none 0 0,.slice none 0 0,.slice (some ⟨b2,0,none⟩) 1 1][i]?)/\W'.cell? ⟨bo,fo,none⟩=some (.int .i64 0)) ((exact HK.out _ bm)) (first|(go_at_call 79;refine(Yj b b2 _).mono ?_;rintro e w2 ⟨rfl,k2⟩))
 have k2':Below W0.heap.size W0 w2:=bm
 have kk:Below w.heap.size w w2:=aP kW k2'
 obtain⟨l2,d2,g2⟩:=(K2.tr k2').get
 have y0:=aJ kk c0
 have y1:=aJ kk c1
 have y2:=aJ kk c2
 have y3:=aJ kk c3
 have y4:=aJ kk c4
 go_wp2_with fail
 refine bodyPost_ret (v:=.tuple #[.agg #[.int .i64 0,.int .i64 1,.int .i64 0,.bool false,.int .u64 0],.bool true]) (by simp only[results,Tryz.results117];go_simp) rfl ⟨rfl,?_⟩
 exact bm
theorem ace(b b2:Nat)(p:Nat)(A:Int)(w:World):Calls (par.ah par.Hm) 117 #[.agg #[.int .u64 10,.int .i64 5,.int .i64 0,.bool false,.int .i64 2,.slice (some ⟨b,0,none⟩) 2 2,.slice none 0 0,.slice none 0 0,.slice none 0 0,.slice (some ⟨b2,0,none⟩) 1 1],.int .i64 p,.slice none 0 0,.int .u64 A] w λe w'=>e=.returned (.tuple #[.agg #[.int .i64 0,.int .i64 0,.int .i64 0,.bool false,.int .u64 0],.bool false])/\Below w.heap.size w w':=by
 go_enter (par.PX (H:=par.Hm)),Tryz.ntmps117
 go_wp2_with fail
 refine bZ 1 ?_
 unfold roll
 go_wp2_with fail
 exact bodyPost_ret (v:=.tuple #[.agg #[.int .i64 0,.int .i64 0,.int .i64 0,.bool false,.int .u64 0],.bool false]) (by simp only[results,Tryz.results117];go_simp) rfl ⟨rfl,bm⟩
def F5(w:World)(B bo fo cz:Nat):Prop:=aW w B #[.slice none 0 0,.slice (some ⟨bo,fo,none⟩) 1 cz,.slice none 0 0,.slice none 0 0,.slice none 0 0] 28/\L1 w bo fo cz
theorem F5.tr{w w':World}{B bo fo cz:Nat}(h:F5 w B bo fo cz)(k:Below w.heap.size w w'):F5 w' B bo fo cz:=⟨h.1.tr k,h.2.tr k⟩
theorem abh(b b2 B bo fo cz:Nat)(w:World)(h:F5 w B bo fo cz):Calls (par.ah par.Hm) 80 #[.agg #[.int .u64 10,.int .i64 5,.int .i64 0,.bool false,.int .i64 2,.slice (some ⟨b,0,none⟩) 2 2,.slice none 0 0,.slice none 0 0,.slice none 0 0,.slice (some ⟨b2,0,none⟩) 1 1],.slice (some ⟨B,0,none⟩) 5 5,.int .u64 21,.int .i64 1,.int .i64 2] w λe w'=>e=.returned (.bool true)/\Below w.heap.size w w':=by
 have HA:Hid (∀W,Calls (par.ah par.Hm) 83 #[.int .u64 21] W λe w'=>e=.returned (.tuple #[.int .u64 10,.int .i64 0])/\W=w'):=Lib.hid λW=>nS 21 W (by decide) (by decide)
 go_enter (par.adB (H:=par.Hm)),Tryz.ntmps80
 go_wp2_with fail
 refine(HA.out _).mono ?_;rintro e ww ⟨rfl,rfl⟩
 have b0:Below w.heap.size w (w.alloc (.cells #[Value.int .u64 10,.int .i64 5,.int .i64 0,.bool false,.int .i64 2,.slice (some ⟨b,0,none⟩) 2 2,.slice none 0 0,.slice none 0 0,.slice none 0 0,.slice (some ⟨b2,0,none⟩) 1 1] 34)):=bm
 have GG:Hid (∀W,Below (w.alloc (.cells #[Value.int .u64 10,.int .i64 5,.int .i64 0,.bool false,.int .i64 2,.slice (some ⟨b,0,none⟩) 2 2,.slice none 0 0,.slice none 0 0,.slice none 0 0,.slice (some ⟨b2,0,none⟩) 1 1] 34)).heap.size (w.alloc (.cells #[Value.int .u64 10,.int .i64 5,.int .i64 0,.bool false,.int .i64 2,.slice (some ⟨b,0,none⟩) 2 2,.slice none 0 0,.slice none 0 0,.slice none 0 0,.slice (some ⟨b2,0,none⟩) 1 1] 34)) W->aW W w.heap.size #[Value.int .u64 10,.int .i64 5,.int .i64 0,.bool false,.int .i64 2,.slice (some ⟨b,0,none⟩) 2 2,.slice none 0 0,.slice none 0 0,.slice none 0 0,.slice (some ⟨b2,0,none⟩) 1 1] 34/\F5 W B bo fo cz):=Lib.hid λW k=>⟨(aW.new w #[Value.int .u64 10,.int .i64 5,.int .i64 0,.bool false,.int .i64 2,.slice (some ⟨b,0,none⟩) 2 2,.slice none 0 0,.slice none 0 0,.slice none 0 0,.slice (some ⟨b2,0,none⟩) 1 1] 34).tr k,(h.tr b0).tr k⟩
 have HA1:Hid (∀W,L1 W bo fo cz->Calls (par.ah par.Hm) 117 #[.agg #[.int .u64 10,.int .i64 5,.int .i64 0,.bool false,.int .i64 2,.slice (some ⟨b,0,none⟩) 2 2,.slice none 0 0,.slice none 0 0,.slice none 0 0,.slice (some ⟨b2,0,none⟩) 1 1],.int .i64 1,.slice (some ⟨bo,fo,none⟩) 1 cz,.int .u64 10] W λe w'=>e=.returned (.tuple #[.agg #[.int .i64 0,.int .i64 1,.int .i64 0,.bool false,.int .u64 0],.bool true])/\Below W.heap.size W w'):=Lib.hid λW hW=>aha b b2 bo fo cz W hW
 generalize w.alloc (.cells #[Value.int .u64 10,.int .i64 5,.int .i64 0,.bool false,.int .i64 2,.slice (some ⟨b,0,none⟩) 2 2,.slice none 0 0,.slice none 0 0,.slice none 0 0,.slice (some ⟨b2,0,none⟩) 1 1] 34)=W0 at*
 go_upto_region 6 with(fail)
 go_cut [14] (λv wx=>v=.bool true/\Below W0.heap.size W0 wx)
 case first=>
  have G:=GG.out _ (Below.refl W0.heap.size W0)
  have hsz:=((Below.refl W0.heap.size W0)).size
  obtain⟨l1,d1,g1⟩:=G.1.get
  obtain⟨l5,d5,g5⟩:=G.2.1.get
  have HK:Hid (∀W':World,Below W0.heap.size W0 W'->(∀i,W'.cell? ⟨w.heap.size,i,none⟩= #[Value.int .u64 10,.int .i64 5,.int .i64 0,.bool false,.int .i64 2,.slice (some ⟨b,0,none⟩) 2 2,.slice none 0 0,.slice none 0 0,.slice none 0 0,.slice (some ⟨b2,0,none⟩) 1 1][i]?)/\∀i,W'.cell? ⟨B,i,none⟩= #[Value.slice none 0 0,.slice (some ⟨bo,fo,none⟩) 1 cz,.slice none 0 0,.slice none 0 0,.slice none 0 0][i]?):=Lib.hid λW' h=>⟨(G.1.tr h).get.2.1,(G.2.1.tr h).get.2.1⟩
  refine wp_region_held_drew (S:=(λW'=>(∀i,W'.cell? ⟨w.heap.size,i,none⟩= #[Value.int .u64 10,.int .i64 5,.int .i64 0,.bool false,.int .i64 2,.slice (some ⟨b,0,none⟩) 2 2,.slice none 0 0,.slice none 0 0,.slice none 0 0,.slice (some ⟨b2,0,none⟩) 1 1][i]?)/\∀i,W'.cell? ⟨B,i,none⟩= #[Value.slice none 0 0,.slice (some ⟨bo,fo,none⟩) 1 cz,.slice none 0 0,.slice none 0 0,.slice none 0 0][i]?)) (by kernel_rfl) ?_ (λhHeld=> ?_)
  ·(try dsimp only);exact HK.out _ bm
  refine tk 0 ?_
  refine tk 1 ?_
  refine tk 2 ?_
  refine tk 3 ?_
  refine tk 4 ?_
  refine tk 5 ?_
  refine tk 6 ?_
  refine wpAnyH_ready (rs:=[7,11]) (by kernel_rfl) (by simp) ?_
  refine AllReadyH.cons rfl (λK hK=> ?_) (AllReadyH.cons rfl (λK hK=> ?_) AllReadyH.nil)
  ·go_simp
   go_at_call 117;refine(HA1.out _ (G.2.2.tr (by exact bm))).mono ?_;rintro e w2 ⟨rfl,k2⟩;go_wp2_with fail
   refine hK.out _ _ ?_ (λhHeld=> ?_)
   ·exact HK.out _ bm
   clear hK K
   refine nx ?_
   refine tk 8 ?_
   refine tk 9 ?_
   refine tk 10 ?_
   refine co 11 λK hK=> ?_
   go_simp
   skip
   refine hK.out _ _ ?_ (λhHeld=> ?_)
   ·(try dsimp only);exact HK.out _ bm
   clear hK K
   refine nx ?_
   refine co 12 λK hK=> ?_
   go_simp
   skip
   refine hK.out _ _ ?_ (λhHeld=> ?_)
   ·(try dsimp only);exact HK.out _ bm
   clear hK K
   refine nx ?_
   refine tk 13 ?_
   refine wpAnyH_done (by kernel_rfl) ?_ _
   go_wp2_with fail
   go_meet
   exact⟨rfl,bm⟩
  ·go_simp
   refine hK.out _ _ ?_ (λhHeld=> ?_)
   ·exact HK.out _ bm
   clear hK K
   refine nx ?_
   refine co 7 λK hK=> ?_
   go_simp
   go_at_call 117;refine(HA1.out _ (G.2.2.tr (by exact bm))).mono ?_;rintro e w2 ⟨rfl,k2⟩;go_wp2_with fail
   refine hK.out _ _ ?_ (λhHeld=> ?_)
   ·(try dsimp only);exact HK.out _ bm
   clear hK K
   refine nx ?_
   have KN:aW w2 W0.heap.size #[.int .i64 0,.int .i64 0,.int .i64 0,.bool false,.int .u64 0] 56:=bk
   obtain⟨lN,cN,fN⟩:=KN.get
   refine tk 8 ?_
   refine tk 9 ?_
   refine tk 10 ?_
   refine co 12 λK hK=> ?_
   go_simp
   skip
   refine hK.out _ _ ?_ (λhHeld=> ?_)
   ·(try dsimp only);exact HK.out _ bm
   clear hK K
   refine nx ?_
   refine tk 13 ?_
   refine wpAnyH_done (by kernel_rfl) ?_ _
   go_wp2_with fail
   go_meet
   exact⟨rfl,bm⟩
 case rest=>
 obtain⟨rfl,kx⟩:=hcut
 go_upto_region 7 with(fail)
 go_cut [16] (λv wx=>v=.bool false/\Below W0.heap.size W0 wx)
 case first=>
  have G:=GG.out _ kx
  have hsz:=(kx).size
  obtain⟨l1,d1,g1⟩:=G.1.get
  obtain⟨l5,d5,g5⟩:=G.2.1.get
  have HK:Hid (∀W':World,Below wc.heap.size wc W'->(∀i,W'.cell? ⟨w.heap.size,i,none⟩= #[Value.int .u64 10,.int .i64 5,.int .i64 0,.bool false,.int .i64 2,.slice (some ⟨b,0,none⟩) 2 2,.slice none 0 0,.slice none 0 0,.slice none 0 0,.slice (some ⟨b2,0,none⟩) 1 1][i]?)/\∀i,W'.cell? ⟨B,i,none⟩= #[Value.slice none 0 0,.slice (some ⟨bo,fo,none⟩) 1 cz,.slice none 0 0,.slice none 0 0,.slice none 0 0][i]?):=Lib.hid λW' h=>⟨(G.1.tr h).get.2.1,(G.2.1.tr h).get.2.1⟩
  refine wp_region_held_drew (S:=(λW'=>(∀i,W'.cell? ⟨w.heap.size,i,none⟩= #[Value.int .u64 10,.int .i64 5,.int .i64 0,.bool false,.int .i64 2,.slice (some ⟨b,0,none⟩) 2 2,.slice none 0 0,.slice none 0 0,.slice none 0 0,.slice (some ⟨b2,0,none⟩) 1 1][i]?)/\∀i,W'.cell? ⟨B,i,none⟩= #[Value.slice none 0 0,.slice (some ⟨bo,fo,none⟩) 1 cz,.slice none 0 0,.slice none 0 0,.slice none 0 0][i]?)) (by kernel_rfl) ?_ (λhHeld=> ?_)
  ·(try dsimp only);exact HK.out _ bm
  refine tk 0 ?_
  refine tk 1 ?_
  refine tk 2 ?_
  refine tk 3 ?_
  refine tk 4 ?_
  refine tk 5 ?_
  refine tk 6 ?_
  refine wpAnyH_ready (rs:=[7,11]) (by kernel_rfl) (by simp) ?_
  refine AllReadyH.cons rfl (λK hK=> ?_) (AllReadyH.cons rfl (λK hK=> ?_) AllReadyH.nil)
  ·go_simp
   go_at_call 117;refine(ace b b2 2 10 _).mono ?_;rintro e w2 ⟨rfl,k2⟩;go_wp2_with fail
   refine hK.out _ _ ?_ (λhHeld=> ?_)
   ·exact HK.out _ bm
   clear hK K
   refine nx ?_
   refine tk 8 ?_
   refine tk 9 ?_
   refine tk 10 ?_
   refine co 11 λK hK=> ?_
   go_simp
   skip
   refine hK.out _ _ ?_ (λhHeld=> ?_)
   ·(try dsimp only);exact HK.out _ bm
   clear hK K
   refine nx ?_
   refine co 12 λK hK=> ?_
   go_simp
   skip
   refine hK.out _ _ ?_ (λhHeld=> ?_)
   ·(try dsimp only);exact HK.out _ bm
   clear hK K
   refine nx ?_
   refine tk 13 ?_
   refine wpAnyH_done (by kernel_rfl) ?_ _
   go_wp2_with fail
   go_meet
   exact⟨rfl,bm⟩
  ·go_simp
   refine hK.out _ _ ?_ (λhHeld=> ?_)
   ·exact HK.out _ bm
   clear hK K
   refine nx ?_
   refine co 7 λK hK=> ?_
   go_simp
   go_at_call 117;refine(ace b b2 2 10 _).mono ?_;rintro e w2 ⟨rfl,k2⟩;go_wp2_with fail
   refine hK.out _ _ ?_ (λhHeld=> ?_)
   ·(try dsimp only);exact HK.out _ bm
   clear hK K
   refine nx ?_
   have KN:aW w2 wc.heap.size #[.int .i64 0,.int .i64 0,.int .i64 0,.bool false,.int .u64 0] 56:=bk
   obtain⟨lN,cN,fN⟩:=KN.get
   refine tk 8 ?_
   refine tk 9 ?_
   refine tk 10 ?_
   refine co 12 λK hK=> ?_
   go_simp
   skip
   refine hK.out _ _ ?_ (λhHeld=> ?_)
   ·(try dsimp only);exact HK.out _ bm
   clear hK K
   refine nx ?_
   refine tk 13 ?_
   refine wpAnyH_done (by kernel_rfl) ?_ _
   go_wp2_with fail
   go_meet
   exact⟨rfl,bm⟩
 case rest=>
 obtain⟨rfl,ky⟩:=hcut
 go_wp2_with fail
 go_ret
 exact⟨rfl,bm⟩
end Go.Proofs.YtlncengggmgdgaaGreat.aw
namespace Go.Proofs.YtlncengggmgdgaaGreat.aw
open Go Go.RowKit gr hd lx
attribute [local irreducible] par.ah
set_option maxHeartbeats 4000000
theorem QF(b b2:Nat)(w:World):Calls (par.ah par.Hm) 37 #[.agg #[.int .u64 10,.int .i64 5,.int .i64 0,.bool false,.int .i64 2,.slice (some ⟨b,0,none⟩) 2 2,.slice none 0 0,.slice none 0 0,.slice none 0 0,.slice (some ⟨b2,0,none⟩) 1 1],.int .i64 1] w λe w'=>e=.returned (.slice (some ⟨b,0,none⟩) 2 2)/\Below w.heap.size w w':=by
 go_enter (par.yF (H:=par.Hm)),Tryz.ntmps37
 go_wp2_with fail
 go_ret
 exact⟨rfl,bm⟩
theorem Az(b b2 p:Nat)(w:World)(hp:2<=p/\p<=4):Calls (par.ah par.Hm) 37 #[.agg #[.int .u64 10,.int .i64 5,.int .i64 0,.bool false,.int .i64 2,.slice (some ⟨b,0,none⟩) 2 2,.slice none 0 0,.slice none 0 0,.slice none 0 0,.slice (some ⟨b2,0,none⟩) 1 1],.int .i64 p] w λe w'=>e=.returned (.slice none 0 0)/\Below w.heap.size w w':=by
 obtain rfl|rfl|rfl:p=2\/p=3\/p=4:=by omega
 all_goals
  go_enter (par.yF (H:=par.Hm)),Tryz.ntmps37
  go_wp2_with fail
  go_ret
  exact⟨rfl,bm⟩
theorem FK(b b2:Nat)(v:Value)(w:World):Calls (par.ah par.Hm) 116 #[.agg #[.int .u64 10,.int .i64 5,.int .i64 0,.bool false,.int .i64 2,.slice (some ⟨b,0,none⟩) 2 2,.slice none 0 0,.slice none 0 0,.slice none 0 0,.slice (some ⟨b2,0,none⟩) 1 1],.slice none 0 0,v] w λe w'=>e=.returned (.tuple #[.slice none 0 0,.bool true])/\Below w.heap.size w w':=by
 go_enter (par.ZR (H:=par.Hm)),Tryz.ntmps116
 go_wp2_with fail
 refine bZ 1 ?_
 unfold roll
 go_wp2_with fail
 go_ret2
 exact⟨rfl,bm⟩
theorem abj(b b2 B bo fo cz:Nat)(w:World)(h:F5 w B bo fo cz):Calls (par.ah par.Hm) 81 #[.agg #[.int .u64 10,.int .i64 5,.int .i64 0,.bool false,.int .i64 2,.slice (some ⟨b,0,none⟩) 2 2,.slice none 0 0,.slice none 0 0,.slice none 0 0,.slice (some ⟨b2,0,none⟩) 1 1],.slice (some ⟨B,0,none⟩) 5 5,.int .i64 1] w λe w'=>e=.returned (.bool true)/\Below w.heap.size w w':=by
 go_enter (par.WS (H:=par.Hm)),Tryz.ntmps81
 go_wp2_with fail
 refine(QF b b2 _).mono ?_;rintro e w1 ⟨rfl,k1⟩
 have kk:Below w.heap.size w w1:=bm
 obtain⟨⟨h1,h2,h3⟩,c0,c1,c2,c3,c4⟩:=(h.tr kk).2
 obtain⟨l5,d5,g5⟩:=(h.tr kk).1.get
 go_wp2_with fail
 refine bZ 2 ?_
 unfold roll
 go_wp2_with fail
 refine bZ 1 ?_
 unfold roll
 go_wp2_with fail
 unfold roll
 go_wp2_with fail
 go_ret
 exact⟨rfl,bm⟩
theorem Ii(b b2 B bo fo cz p:Nat)(w:World)(h:F5 w B bo fo cz)(hp:2<=p/\p<=4):Calls (par.ah par.Hm) 81 #[.agg #[.int .u64 10,.int .i64 5,.int .i64 0,.bool false,.int .i64 2,.slice (some ⟨b,0,none⟩) 2 2,.slice none 0 0,.slice none 0 0,.slice none 0 0,.slice (some ⟨b2,0,none⟩) 1 1],.slice (some ⟨B,0,none⟩) 5 5,.int .i64 p] w λe w'=>e=.returned (.bool true)/\Below w.heap.size w w':=by
 have HP:=Lib.hid λW=>Az b b2 p W hp
 obtain rfl|rfl|rfl:p=2\/p=3\/p=4:=by omega
 all_goals
  go_enter (par.WS (H:=par.Hm)),Tryz.ntmps81
  go_wp2_with fail
  refine(HP.out _).mono ?_;rintro e w1 ⟨rfl,k1⟩
  have kk:Below w.heap.size w w1:=bm
  obtain⟨l5,d5,g5⟩:=(h.tr kk).1.get
  go_wp2_with fail
  refine bZ 1 ?_
  unfold roll
  go_wp2_with fail
  go_ret
  exact⟨rfl,bm⟩
theorem abk(B bo fo cz:Nat)(w:World)(h:F5 w B bo fo cz):Calls (par.ah par.Hm) 82 #[.slice (some ⟨B,0,none⟩) 5 5] w λe w'=>e=.returned (.int .i64 0)/\Below w.heap.size w w':=by
 obtain⟨l5,d5,g5⟩:=h.1.get
 go_enter (par.adC (H:=par.Hm)),Tryz.ntmps82
 go_wp2_with fail
 refine bZ 3 ?_
 unfold roll
 go_wp2_with fail
 refine bZ 1 ?_
 unfold roll
 go_wp2_with fail
 unfold roll
 go_wp2_with fail
 refine bZ 1 ?_
 unfold roll
 go_wp2_with fail
 unfold roll
 go_wp2_with fail
 go_ret
 exact⟨rfl,bm⟩
theorem abl(b b2:Nat)(w:World):Calls (par.ah par.Hm) 76 #[.agg #[.int .u64 10,.int .i64 5,.int .i64 0,.bool false,.int .i64 2,.slice (some ⟨b,0,none⟩) 2 2,.slice none 0 0,.slice none 0 0,.slice none 0 0,.slice (some ⟨b2,0,none⟩) 1 1]] w λe w'=>e=.returned (.bool true)/\Below w.heap.size w w':=by
 go_enter (par.ady (H:=par.Hm)),Tryz.ntmps76
 go_wp2_with fail
 refine(Yh b b2 _).mono ?_;rintro e w1 ⟨rfl,k1⟩
 go_wp2_with fail
 refine(QE _).mono ?_;rintro e w2 ⟨rfl,k2⟩
 have KH:aW w2 (w.heap.size) (#[Value.int .u64 10,.int .i64 5,.int .i64 0,.bool false,.int .i64 2,.slice (some ⟨b,0,none⟩) 2 2,.slice none 0 0,.slice none 0 0,.slice none 0 0,.slice (some ⟨b2,0,none⟩) 1 1]) 34:=bk
 obtain⟨lH,cH,fH⟩:=KH.get
 go_wp2_with fail
 go_ret
 exact⟨rfl,bm⟩
end Go.Proofs.YtlncengggmgdgaaGreat.aw
namespace Go.Proofs.YtlncengggmgdgaaGreat.aw
open Go Go.RowKit gr hd lx ob
attribute [local irreducible] par.ah
set_option maxHeartbeats 4000000
theorem Yk:((par.ah par.Hm).info? 56).map (λi=>(i.zero,i.size,i.bytes))=some (some (.agg #[.int .i64 0,.int .i64 0,.int .i64 0,.bool false,.int .u64 0]),5,40):=by kernel_rfl
theorem abm(o:Ob):∀u∈fF o,u.oneCell'=true:=by intro u hu;simp[fF]at hu;rcases hu with rfl|rfl|rfl|rfl|rfl<;>rfl
theorem abn{ops:Array Oper}{rest:List Oper}{o:Oper}{a:Act}{Q:Exit->Act->World->Prop}(w:World)(hw:Region.wanted o (yielded ops a.tmps)=true)(s x:Operand)
  (ho:o.op=.call {callee:=.builtin .append,args:= #[s,x],argTypes:= #[28,28]})
  (B:Nat) (v u:Value) (xs ys:List Ob) (hs:a.eval s=v) (hx:a.eval x=u) (hown:aX 56 5 fF w B v xs) (hys:jc 5 fF w u ys) (hbig:xs.length+ys.length<100000000000) (hB:B<=w.heap.size)
  (h:∀v' w',aX 56 5 fF w' B v' (xs++ys)->w.grownBy w' v.ownBlock->(v'.ownBlock=v.ownBlock\/v'.ownBlock=some w.heap.size)->wpList (par.ah par.Hm) ops Q rest (a.put o.dst v') w'):wpList (par.ah par.Hm) ops Q (o::rest) a w:=
 Fp (α:=Ob) (k:=5) (en:=fF) w hw s x _ ho (λ_=>rfl) abm _ 40 ((par.aB par.Hm 28).trans Tryz.underlying28) Yk rfl (by decide) (by decide) B v u xs ys hs hx hown hys hbig hB h
theorem QG(old:Bool)(w:World):Calls (par.ah par.Hm) 51 #[.slice none 0 0,.slice none 0 0,.bool old] w λe w'=>e=.returned (.tuple #[.slice none 0 0,.int .i64 0])/\Below w.heap.size w w':=by
 go_enter (par.WO (H:=par.Hm)),Tryz.ntmps51
 go_wp2_with fail
 refine bZ 1 ?_
 unfold roll
 go_wp2_with fail
 go_ret2
 exact⟨rfl,bm⟩
def ob1:Ob:=⟨0,1,0,false,0⟩
theorem aeA{w:World}{B:Nat}{v:Value}(h:aX 56 5 fF w B v [ob1]):∃bo cz,v=.slice (some ⟨bo,0,none⟩) 1 cz/\B<=bo/\L1 w bo 0 cz:=by
 obtain⟨ad,cap,rfl,h1,h2,h3,h4⟩:=h.form (λ_=>rfl)
 obtain⟨g,rfl,h5,h6,h7⟩:=h4 (by decide)
 refine⟨g,cap,rfl,h5,⟨h1,h2,h6⟩,?_,?_,?_,?_,?_⟩
 ·exact h7 0 0 ob1 _ rfl rfl
 ·exact h7 0 1 ob1 _ rfl rfl
 ·exact h7 0 2 ob1 _ rfl rfl
 ·exact h7 0 3 ob1 _ rfl rfl
 ·exact h7 0 4 ob1 _ rfl rfl
theorem abp(b:Nat)(w:World)(hb:aW w b #[.int .u64 2,.int .u64 6] 24):Calls (par.ah par.Hm) 51 #[.slice (some ⟨b,0,none⟩) 2 2,.slice none 0 0,.bool false] w λe w'=>∃bo cz,e=.returned (.tuple #[.slice (some ⟨bo,0,none⟩) 1 cz,.int .i64 0])/\L1 w' bo 0 cz/\Below w.heap.size w w':=by
 obtain⟨lb,cb,fb⟩:=hb.get
 have HA:Hid (∀W,Calls (par.ah par.Hm) 83 #[.int .u64 2] W λe w'=>e=.returned (.tuple #[.int .u64 0,.int .i64 3])/\W=w'):=Lib.hid λW=>nS 2 W (by decide) (by decide)
 have HU:Hid (∀W,Calls (par.ah par.Hm) 96 #[.int .u64 2] W λe w'=>e=.returned (.tuple #[.agg #[.int .i64 1,.int .i64 0],.int .i64 0])/\Below W.heap.size W w'):=Lib.hid λW=>Ec 2 W (by decide) (by decide)
 go_enter (par.WO (H:=par.Hm)),Tryz.ntmps51
 go_wp2_with fail
 refine bZ 2 ?_
 unfold roll
 go_wp2_with fail
 refine(HA.out _).mono ?_;rintro e ww ⟨rfl,rfl⟩
 go_wp2_with fail
 refine(HU.out _).mono ?_;rintro e w1 ⟨rfl,k1⟩
 have KO:aW w1 (w.heap.size) (#[.int .i64 0,.int .i64 0,.int .i64 0,.bool false,.int .u64 0]) 56:=bk
 obtain⟨lO,cO,fO⟩:=KO.get
 go_wp2_with fail
 have K2:aW (((w1.setCell ⟨w.heap.size,1,none⟩ (.int .i64 1)).setCell ⟨w.heap.size,2,none⟩ (.int .i64 0)).alloc (.cells #[.int .i64 1,.int .i64 0] 54)) w.heap.size #[.int .i64 0,.int .i64 1,.int .i64 0,.bool false,.int .u64 0] 56:=((KO.set 1 (.int .i64 1)).set 2 (.int .i64 0)).alloc _
 have kW:Below w.heap.size w (((w1.setCell ⟨w.heap.size,1,none⟩ (.int .i64 1)).setCell ⟨w.heap.size,2,none⟩ (.int .i64 0)).alloc (.cells #[.int .i64 1,.int .i64 0] 54)):=bm
 generalize((w1.setCell ⟨w.heap.size,1,none⟩ (.int .i64 1)).setCell ⟨w.heap.size,2,none⟩ (.int .i64 0)).alloc (.cells #[.int .i64 1,.int .i64 0] 54)=W2 at*
 clear cO fO lO
 obtain⟨lO,cO,fO⟩:=K2.get
 have HS:Hid (∀W',Below W2.heap.size W2 W'->Calls (par.ah par.Hm) 97 #[.slice (some ⟨b,1,none⟩) 1 1,.agg #[.int .i64 0,.int .i64 1,.int .i64 0,.bool false,.int .u64 0]] W' λe w'=>e=.returned (.int .i64 0)/\Below W'.heap.size W' w'):=Lib.hid λW' k=>by
  have hx:dV W' b 1 1 [6]:=Kz λi hi=>by
   obtain rfl:i=0:=by omega
   exact(((hb.tr kW).tr k).get.2.1 1).trans rfl
  refine(TJ b 1 1 1 (some ⟨b,1,none⟩) ob1 [6] W' (by decide) (λ_=>rfl) hx (λi=> ?_)).mono ?_
  ·rcases i with _|i
   ·exact⟨by decide,by decide⟩
   ·exact⟨by simp,by simp⟩
  ·rintro e w' ⟨h|h,k⟩
   ·exact⟨h.2,k⟩
   ·exact(h.1 λi hi=>by obtain rfl:i=0:=by omega
                        rfl).elim
 have HK:Hid (∀W':World,Below W2.heap.size W2 W'->(∀i,W'.cell? ⟨w.heap.size,i,none⟩= #[Value.int .i64 0,.int .i64 1,.int .i64 0,.bool false,.int .u64 0][i]?)):=Lib.hid λW' h=>(K2.tr h).get.2.1
 have hw1:IntKind.i64.wrap 1=1:=rfl
 have hw2:IntKind.i64.wrap 2=2:=rfl
 go_upto_region 20 with(fail)
 refine wp_region_held_drew (S:=(λW'=>∀i,W'.cell? ⟨w.heap.size,i,none⟩= #[Value.int .i64 0,.int .i64 1,.int .i64 0,.bool false,.int .u64 0][i]?)) (by kernel_rfl) ?_ (λhHeld=> ?_)
 ·(try dsimp only);exact HK.out _ bm
 refine tk 0 ?_
 refine tk 1 ?_
 refine tk 2 ?_
 refine tk 3 ?_
 refine tk 4 ?_
 refine tk 5 ?_
 refine tk 6 ?_
 refine tk 7 ?_
 refine tk 8 ?_
 refine tk 9 ?_
 refine tk 10 ?_
 refine co 11 λK hK=> ?_
 go_simp
 go_at_call 97;refine(HS.out _ bm).mono ?_;rintro e w3 ⟨rfl,k3⟩;go_wp2_with fail
 refine hK.out _ _ ?_ (λhHeld=> ?_)
 ·(try dsimp only);exact HK.out _ bm
 clear hK K
 refine nx ?_
 refine tk 12 ?_
 refine wpAnyH_done (by kernel_rfl) ?_ _
 have k3':Below W2.heap.size W2 w3:=bm
 have kk:=aP kW k3'
 have K3:=K2.tr k3'
 clear cO fO lO HS HK K2
 obtain⟨lO,cO,fO⟩:=K3.get
 go_wp2_with (at_builtin;refine abn _ rfl _ _ rfl w.heap.size _ _ [] [ob1] rfl rfl ?d0 ?d1 (by decide) ?d3 ?d4)
 case d0=>exact aX.nil _ _
 case d1=>exact lD _ ob1 _ rfl _ rfl
 case d3=>have:=kk.size;simp;omega
 case d4=>
 intro v' w4 uS hg hat
 have hb4:Below w.heap.size w w4:=dF hg (eG kk (Nat.le_refl _) _) (Nat.le_refl _) (λk e=>by cases e)
 have K4:=yM hg (K3.alloc _) (λk e=>by cases e)
 clear cO fO lO K3
 obtain⟨lO,cO,fO⟩:=K4.get
 go_wp2_with fail
 unfold roll
 go_wp2_with fail
 go_ret2
 obtain⟨bo,cz,rfl,-,h1⟩:=aeA uS
 exact⟨bo,cz,rfl,h1,hb4⟩
theorem abq(b:Nat)(w:World)(hb:aW w b #[.int .u64 2,.int .u64 6] 24):Calls (par.ah par.Hm) 28 #[.slice (some ⟨b,0,none⟩) 2 2] w λe w'=>∃bo cz,e=.returned (.tuple #[.slice (some ⟨bo,0,none⟩) 1 cz,.int .i64 0])/\L1 w' bo 0 cz/\Below w.heap.size w w':=by
 go_enter (par.WI (H:=par.Hm)),Tryz.ntmps28
 go_wp2_with fail
 refine(abp b _ hb).mono ?_;rintro e w1 ⟨bo,cz,rfl,h1,k1⟩
 go_wp2_with fail
 go_ret2
 exact⟨bo,cz,rfl,h1,k1⟩
theorem abr(w:World):Calls (par.ah par.Hm) 28 #[.slice none 0 0] w λe w'=>e=.returned (.tuple #[.slice none 0 0,.int .i64 0])/\Below w.heap.size w w':=by
 go_enter (par.WI (H:=par.Hm)),Tryz.ntmps28
 go_wp2_with fail
 refine(QG false _).mono ?_;rintro e w1 ⟨rfl,k1⟩
 go_wp2_with fail
 go_ret2
 exact⟨rfl,bm⟩
theorem DK(w:World):Calls (par.ah par.Hm) 18 #[.slice none 0 0,.slice none 0 0] w λe w'=>e=.returned (.tuple #[.slice none 0 0,.int .i64 0])/\Below w.heap.size w w':=by
 go_enter (par.ac4 (H:=par.Hm)),Tryz.ntmps18
 go_wp2_with fail
 refine(QG true _).mono ?_;rintro e w1 ⟨rfl,k1⟩
 go_wp2_with fail
 go_ret2
 exact⟨rfl,bm⟩
end Go.Proofs.YtlncengggmgdgaaGreat.aw
