/- The reader of parse: need, demand, number, row, refs, scalars, end. LONE=M. No conditions. -/
import Derived.Test.YtlncengggmgdgaaGreatG22
import Derived.Test.YtlncengggmgdgaaGreatG27
import Derived.Test.YtlncengggmgdgaaGreatTk
import Derived.Test.YtlncengggmgdgaaGreatG26
set_option linter.unusedVariables false
set_option linter.unusedSimpArgs false
set_option maxRecDepth 100000
namespace Go.Proofs.YtlncengggmgdgaaGreat.ps
open Go Go.RowKit cm cw gr hd lx
open fr (VT vt jX take_any jl)
attribute [local irreducible] par.ah
def uX(c:Int):Value:=.iface 145 (.agg #[.int .i64 c])
def thrown(c:Int):Ending:=.panicked [{v:=uX c,recovered:=false}]
theorem iM(c:Int)(w:World):
  Calls (par.ah par.Hm) 88 #[.int .i64 c] w λe w'=>(c=0/\e=.returned (.tuple #[])\/c≠0/\e=thrown c)/\w=w':=by
 by_cases h:c=0
 ·subst h
  go_enter par.Xm,Tryz.ntmps88
  go_wp2_with fail
  go_end0
  exact⟨.inl ⟨trivial,rfl⟩,rfl⟩
 ·have hb:(c !=0)=true:=by simp[h]
  go_enter par.Xm,Tryz.ntmps88
  go_wp2_with fail
  exact⟨rfl,.inr ⟨h,rfl⟩,rfl⟩
theorem aV(b:Bool)(c:Int)(w:World):
  Calls (par.ah par.Hm) 89 #[.bool b,.int .i64 c] w λe w'=>(b=true/\e=.returned (.tuple #[])\/b=false/\e=thrown c)/\w=w':=by
 rcases b with _|_
 ·go_enter par.Xn,Tryz.ntmps89
  go_wp2_with fail
  exact⟨rfl,.inr ⟨trivial,rfl⟩,rfl⟩
 ·go_enter par.Xn,Tryz.ntmps89
  go_wp2_with fail
  go_end0
  exact⟨.inl ⟨trivial,rfl⟩,rfl⟩
def zK(s:ByteArray)(p:Nat):Array Value:= #[.string s,.int .i64 (p:Int)]
def aaX(B:Nat)(s:ByteArray)(p:Nat)(R:VT)(w:World)(e:Ending)(w':World):Prop:=
 w.grownBy w' (some B)/\match R with
  | .ok v n=>e=.returned (.int .u64 (v:Int))/\aW w' B (zK s (p+n)) 157
  | .short=>e=thrown 2
  | .form=>e=thrown 3
theorem eH(w:World)(B i:Nat)(v:Value):w.grownBy (w.setCell ⟨B,i,none⟩ v) (some B):=⟨rfl,rfl,rfl,by simp[World.setCell],λk _ hn=>Below.heap_setCell _ _ _ _ (λe=>hn (by rw[e]))⟩
theorem jd{A B:World}{r:Option Nat}(h:A.grownBy B r):A.grownBy B.drew r:=⟨h.os,h.tape,h.output,h.size,h.block⟩
theorem below_grown{A B:World}(h:Below A.heap.size A B)(row:Option Nat):A.grownBy B row:=⟨h.os,h.tape,h.output,h.size,λk hk _=>h.block k hk⟩
theorem bQ{α:Type}{k:Nat}{en:α->List Value}{T:TypeId}{W w:World}{N B:Nat}{v:Value}{zs:List α}(h:aX T k en W N v zs)(hg:W.grownBy w (some B))(hB:B<N):aX T k en w N v zs:=by
 have hblk:=h.block
 unfold aX at h⊢
 refine World.ownsRow.kept h hg ?_
 rcases hv:v.ownBlock with _|k
 ·exact .inl rfl
 ·exact .inr (λe=>by cases e;have:=hblk _ hv;omega)
theorem XL{l:List Nat}{n p c:Nat}(h:iG l n p=.er c):c=2\/c=3:=by
 unfold iG at h
 split at h
 ·cases h;rename_i h;exact Aw _ _ _ h
 ·split at h
  ·cases h;exact .inr rfl
  ·cases h
theorem aaY{l:List Nat}{n p c:Nat}(h:xB l n p=.er c):c=2\/c=3:=by
 unfold xB at h
 split at h
 ·cases h;exact .inl rfl
 ·cases h
theorem lV(w:World)(r:Option Nat):w.grownBy w r:=⟨rfl,rfl,rfl,Nat.le_refl _,λ_ _ _=>rfl⟩
set_option maxHeartbeats 4000000 in
theorem kV(B:Nat)(s:ByteArray)(p:Nat)(w:World)(hs:s.size<10000000000)(hp:p<=s.size)(hB:aW w B (zK s p) 157):
  Calls (par.ah par.Hm) 100 #[.pointer (some ⟨B,0,none⟩)] w λe w'=>aaX B s p (vt 0 0 ((au s).drop p)) w e w':=by
 have HB:=Lib.hid hB
 unfold zK at hB
 obtain⟨lB,cB,fB⟩:=hB.get
 have c0:=cB 0
 have c1:=cB 1
 have f1:=fB 1
 clear hB
 have uY:=Lib.hid λW=>take_any (HC:=par.Hm) s p W (by omega) hp
 generalize hR:vt 0 0 ((au s).drop p)=R at uY
 have HR:=Lib.hid hR
 clear hR
 rcases R with⟨v,n⟩|_|_
 ·unfold jX at uY
  go_enter (par.GH (H:=par.Hm)),Tryz.ntmps100
  go_wp2_with fail
  go_region_held3 (λw'=>w'.cell? ⟨B,0,none⟩=some (.string s)/\w'.cell? ⟨B,1,none⟩=some (.int .i64 (p:Int)))
   (go_keep)
   (first|(go_at_call 107;refine(uY.out _).mono ?_;rintro e ww ⟨rfl,rfl⟩))
  go_wp2_with fail
  refine(iM _ _).mono ?_;rintro e ww ⟨⟨_,rfl⟩|⟨h,rfl⟩,rfl⟩
  ·go_wp2_with fail
   go_ret
   refine⟨jd (eH _ _ _ _),rfl,?_⟩
   have:=(HB.out.set 1 (.int .i64 (p+n))).drew
   simpa [zK]using this
  ·exact absurd rfl h
 ·unfold jX at uY
  go_enter (par.GH (H:=par.Hm)),Tryz.ntmps100
  go_wp2_with fail
  go_region_held3 (λw'=>w'.cell? ⟨B,0,none⟩=some (.string s)/\w'.cell? ⟨B,1,none⟩=some (.int .i64 (p:Int)))
   (go_keep)
   (first|(go_at_call 107;refine(uY.out _).mono ?_;rintro e ww ⟨rfl,rfl⟩))
  go_wp2_with fail
  refine(iM _ _).mono ?_;rintro e ww ⟨⟨h,rfl⟩|⟨_,rfl⟩,rfl⟩
  ·cases h
  ·unfold thrown
   go_wp2_with fail
   exact⟨rfl,jd (lV _ _),rfl⟩
 ·unfold jX at uY
  go_enter (par.GH (H:=par.Hm)),Tryz.ntmps100
  go_wp2_with fail
  go_region_held3 (λw'=>w'.cell? ⟨B,0,none⟩=some (.string s)/\w'.cell? ⟨B,1,none⟩=some (.int .i64 (p:Int)))
   (go_keep)
   (first|(go_at_call 107;refine(uY.out _).mono ?_;rintro e ww ⟨rfl,rfl⟩))
  go_wp2_with fail
  refine(iM _ _).mono ?_;rintro e ww ⟨⟨h,rfl⟩|⟨_,rfl⟩,rfl⟩
  ·cases h
  ·unfold thrown
   go_wp2_with fail
   exact⟨rfl,jd (lV _ _),rfl⟩
theorem tY{W w1:World}{B p:Nat}{s:ByteArray}(hb:Below W.heap.size W w1)(h:aW W B (zK s p) 157):w1.cell? ⟨B,0,none⟩=some (.string s)/\w1.cell? ⟨B,1,none⟩=some (.int .i64 (p:Int)):=by
 obtain⟨l,c,f⟩:=(h.tr hb).get
 exact⟨c 0,c 1⟩
def yO(B:Nat)(s:ByteArray)(R:rZ)(w:World)(e:Ending)(w':World):Prop:=
 w.grownBy w' (some B)/\match R with
  | .ok xs q=>∃v,e=.returned v/\aX 24 1 nH w' w.heap.size v xs/\aW w' B (zK s q) 157
  | .er c=>e=thrown c
set_option maxHeartbeats 4000000 in
theorem su(B:Nat)(s:ByteArray)(p n:Nat)(w:World)(hs:s.size<10000000000)(hp:p<=s.size)(hn:n<9223372036854775808)(hB:aW w B (zK s p) 157):
  Calls (par.ah par.Hm) 124 #[.pointer (some ⟨B,0,none⟩),.int .i64 n] w λe w'=>yO B s (lU (au s) n p []) w e w':=by
 have HB:=Lib.hid hB
 unfold zK at hB
 obtain⟨lB,cB,fB⟩:=hB.get
 have c0:=cB 0
 have c1:=cB 1
 have f1:=fB 1
 clear hB
 have uY:=Lib.hid λW=>zJ s p n W hs hp hn
 unfold qo at uY
 generalize hR:(lU (au s) n p [])=R at uY
 have HR:=Lib.hid hR
 have her:∀c,R=.er c->c=2\/c=3:=λc e=>Aw _ _ _ (hR.trans e)
 clear hR
 rcases R with⟨xs,q⟩|c
 ·dsimp only at uY
  clear her
  go_enter (par.PY (H:=par.Hm)),Tryz.ntmps124
  go_wp2_with fail
  go_region_held3 (λw'=>w'.cell? ⟨B,0,none⟩=some (.string s)/\w'.cell? ⟨B,1,none⟩=some (.int .i64 (p:Int)))
   (first|(refine tY (W:=w) ?_ HB.out;exact bm)|go_keep)
   (first|(go_at_call 60;refine(uY.out _).mono ?_;rintro e w1 ⟨b1,v,rfl,ho⟩;have B1:=HB.out.drew.tr b1;obtain⟨lB1,cB1,fB1⟩:=B1.get;have f11:=fB1 1;have c11:w1.cell? ⟨B,1,none⟩=some (.int .i64 (p:Int)):=cB1 1;have c10:w1.cell? ⟨B,0,none⟩=some (.string s):=cB1 0))
  go_wp2_with fail
  refine(iM _ _).mono ?_;rintro e ww ⟨⟨_,rfl⟩|⟨h,rfl⟩,rfl⟩
  ·have HO:=Lib.hid ho
   have H1:=Lib.hid B1
   have HW:=Lib.hid b1
   clear ho B1 b1
   go_wp2_with fail
   go_ret
   refine⟨?_,v,rfl,?_,?_⟩
   ·have g1:=below_grown HW.out (some B)
    exact(jd (lV w (some B))).trans (g1.trans (eH _ _ _ _))
   ·exact bQ HO.out (eH _ _ _ _) lB
   ·have:=H1.out.set 1 (.int .i64 q)
    simpa [zK]using this
  ·exact absurd rfl h
 ·dsimp only at uY
  have hc:(c:Int)≠0:=by have:=her c rfl;omega
  clear her
  go_enter (par.PY (H:=par.Hm)),Tryz.ntmps124
  go_wp2_with fail
  go_region_held3 (λw'=>w'.cell? ⟨B,0,none⟩=some (.string s)/\w'.cell? ⟨B,1,none⟩=some (.int .i64 (p:Int)))
   (first|(refine tY (W:=w) ?_ HB.out;exact bm)|go_keep)
   (first|(go_at_call 60;refine(uY.out _).mono ?_;rintro e w1 ⟨b1,rfl⟩;have B1:=HB.out.drew.tr b1;obtain⟨lB1,cB1,fB1⟩:=B1.get;have c10:w1.cell? ⟨B,0,none⟩=some (.string s):=cB1 0;have c11:w1.cell? ⟨B,1,none⟩=some (.int .i64 (p:Int)):=cB1 1))
  go_wp2_with fail
  refine(iM _ _).mono ?_;rintro e ww ⟨⟨h,rfl⟩|⟨_,rfl⟩,rfl⟩
  ·exact absurd h hc
  ·unfold thrown
   go_wp2_with fail
   exact⟨rfl,(jd (lV w (some B))).trans (below_grown b1 (some B)),rfl⟩
set_option maxHeartbeats 4000000 in
theorem Fv(B:Nat)(s:ByteArray)(p n:Nat)(w:World)(hs:s.size<10000000000)(hp:p<=s.size)(hn:n<9223372036854775808)(hB:aW w B (zK s p) 157):
  Calls (par.ah par.Hm) 125 #[.pointer (some ⟨B,0,none⟩),.int .i64 n] w λe w'=>yO B s (iG (au s) n p) w e w':=by
 have HB:=Lib.hid hB
 unfold zK at hB
 obtain⟨lB,cB,fB⟩:=hB.get
 have c0:=cB 0
 have c1:=cB 1
 have f1:=fB 1
 clear hB
 have uY:=Lib.hid λW=>jY s p n W hs hp hn
 unfold qo at uY
 generalize hR:(iG (au s) n p)=R at uY
 have HR:=Lib.hid hR
 have her:∀c,R=.er c->c=2\/c=3:=λc e=>XL (hR.trans e)
 clear hR
 rcases R with⟨xs,q⟩|c
 ·dsimp only at uY
  clear her
  go_enter (par.PZ (H:=par.Hm)),Tryz.ntmps125
  go_wp2_with fail
  go_region_held3 (λw'=>w'.cell? ⟨B,0,none⟩=some (.string s)/\w'.cell? ⟨B,1,none⟩=some (.int .i64 (p:Int)))
   (first|(refine tY (W:=w) ?_ HB.out;exact bm)|go_keep)
   (first|(go_at_call 23;refine(uY.out _).mono ?_;rintro e w1 ⟨b1,v,rfl,ho⟩;have B1:=HB.out.drew.tr b1;obtain⟨lB1,cB1,fB1⟩:=B1.get;have f11:=fB1 1;have c11:w1.cell? ⟨B,1,none⟩=some (.int .i64 (p:Int)):=cB1 1;have c10:w1.cell? ⟨B,0,none⟩=some (.string s):=cB1 0))
  go_wp2_with fail
  refine(iM _ _).mono ?_;rintro e ww ⟨⟨_,rfl⟩|⟨h,rfl⟩,rfl⟩
  ·have HO:=Lib.hid ho
   have H1:=Lib.hid B1
   have HW:=Lib.hid b1
   clear ho B1 b1
   go_wp2_with fail
   go_ret
   refine⟨?_,v,rfl,?_,?_⟩
   ·have g1:=below_grown HW.out (some B)
    exact(jd (lV w (some B))).trans (g1.trans (eH _ _ _ _))
   ·exact bQ HO.out (eH _ _ _ _) lB
   ·have:=H1.out.set 1 (.int .i64 q)
    simpa [zK]using this
  ·exact absurd rfl h
 ·dsimp only at uY
  have hc:(c:Int)≠0:=by have:=her c rfl;omega
  clear her
  go_enter (par.PZ (H:=par.Hm)),Tryz.ntmps125
  go_wp2_with fail
  go_region_held3 (λw'=>w'.cell? ⟨B,0,none⟩=some (.string s)/\w'.cell? ⟨B,1,none⟩=some (.int .i64 (p:Int)))
   (first|(refine tY (W:=w) ?_ HB.out;exact bm)|go_keep)
   (first|(go_at_call 23;refine(uY.out _).mono ?_;rintro e w1 ⟨b1,rfl⟩;have B1:=HB.out.drew.tr b1;obtain⟨lB1,cB1,fB1⟩:=B1.get;have c10:w1.cell? ⟨B,0,none⟩=some (.string s):=cB1 0;have c11:w1.cell? ⟨B,1,none⟩=some (.int .i64 (p:Int)):=cB1 1))
  go_wp2_with fail
  refine(iM _ _).mono ?_;rintro e ww ⟨⟨h,rfl⟩|⟨_,rfl⟩,rfl⟩
  ·exact absurd h hc
  ·unfold thrown
   go_wp2_with fail
   exact⟨rfl,(jd (lV w (some B))).trans (below_grown b1 (some B)),rfl⟩
set_option maxHeartbeats 4000000 in
theorem H9(B:Nat)(s:ByteArray)(p n:Nat)(w:World)(hs:s.size<10000000000)(hp:p<=s.size)(hn:n<9223372036854775808)(hB:aW w B (zK s p) 157):
  Calls (par.ah par.Hm) 128 #[.pointer (some ⟨B,0,none⟩),.int .i64 n] w λe w'=>yO B s (xB (au s) n p) w e w':=by
 have HB:=Lib.hid hB
 unfold zK at hB
 obtain⟨lB,cB,fB⟩:=hB.get
 have c0:=cB 0
 have c1:=cB 1
 have f1:=fB 1
 clear hB
 have uY:=Lib.hid λW=>Ed s p n W hs hp hn
 unfold qo at uY
 generalize hR:(xB (au s) n p)=R at uY
 have HR:=Lib.hid hR
 have her:∀c,R=.er c->c=2\/c=3:=λc e=>aaY (hR.trans e)
 clear hR
 rcases R with⟨xs,q⟩|c
 ·dsimp only at uY
  clear her
  go_enter (par.P7 (H:=par.Hm)),Tryz.ntmps128
  go_wp2_with fail
  go_region_held3 (λw'=>w'.cell? ⟨B,0,none⟩=some (.string s)/\w'.cell? ⟨B,1,none⟩=some (.int .i64 (p:Int)))
   (first|(refine tY (W:=w) ?_ HB.out;exact bm)|go_keep)
   (first|(go_at_call 145;refine(uY.out _).mono ?_;rintro e w1 ⟨b1,v,rfl,ho⟩;have B1:=HB.out.drew.tr b1;obtain⟨lB1,cB1,fB1⟩:=B1.get;have f11:=fB1 1;have c11:w1.cell? ⟨B,1,none⟩=some (.int .i64 (p:Int)):=cB1 1;have c10:w1.cell? ⟨B,0,none⟩=some (.string s):=cB1 0))
  go_wp2_with fail
  refine(iM _ _).mono ?_;rintro e ww ⟨⟨_,rfl⟩|⟨h,rfl⟩,rfl⟩
  ·have HO:=Lib.hid ho
   have H1:=Lib.hid B1
   have HW:=Lib.hid b1
   clear ho B1 b1
   go_wp2_with fail
   go_ret
   refine⟨?_,v,rfl,?_,?_⟩
   ·have g1:=below_grown HW.out (some B)
    exact(jd (lV w (some B))).trans (g1.trans (eH _ _ _ _))
   ·exact bQ HO.out (eH _ _ _ _) lB
   ·have:=H1.out.set 1 (.int .i64 q)
    simpa [zK]using this
  ·exact absurd rfl h
 ·dsimp only at uY
  have hc:(c:Int)≠0:=by have:=her c rfl;omega
  clear her
  go_enter (par.P7 (H:=par.Hm)),Tryz.ntmps128
  go_wp2_with fail
  go_region_held3 (λw'=>w'.cell? ⟨B,0,none⟩=some (.string s)/\w'.cell? ⟨B,1,none⟩=some (.int .i64 (p:Int)))
   (first|(refine tY (W:=w) ?_ HB.out;exact bm)|go_keep)
   (first|(go_at_call 145;refine(uY.out _).mono ?_;rintro e w1 ⟨b1,rfl⟩;have B1:=HB.out.drew.tr b1;obtain⟨lB1,cB1,fB1⟩:=B1.get;have c10:w1.cell? ⟨B,0,none⟩=some (.string s):=cB1 0;have c11:w1.cell? ⟨B,1,none⟩=some (.int .i64 (p:Int)):=cB1 1))
  go_wp2_with fail
  refine(iM _ _).mono ?_;rintro e ww ⟨⟨h,rfl⟩|⟨_,rfl⟩,rfl⟩
  ·exact absurd h hc
  ·unfold thrown
   go_wp2_with fail
   exact⟨rfl,(jd (lV w (some B))).trans (below_grown b1 (some B)),rfl⟩
end Go.Proofs.YtlncengggmgdgaaGreat.ps
namespace Go.Proofs.YtlncengggmgdgaaGreat.ps
open Go Go.RowKit cm cw gr hd lx ob
open fr (VT vt jX take_any jl)
attribute [local irreducible] par.ah
theorem Dq(B:Nat)(s:ByteArray)(p:Nat)(w:World)(hp:p<=s.size)(hB:aW w B (zK s p) 157):
  Calls (par.ah par.Hm) 104 #[.pointer (some ⟨B,0,none⟩)] w λe w'=>(p=s.size/\e=.returned (.tuple #[])\/p≠s.size/\e=thrown 3)/\Below w.heap.size w w':=by
 have HB:=Lib.hid hB
 unfold zK at hB
 obtain⟨lB,cB,fB⟩:=hB.get
 have c0:=cB 0
 have c1:=cB 1
 clear hB
 by_cases hq:p=s.size
 ·subst hq
  go_enter (par.PW (H:=par.Hm)),Tryz.ntmps104
  go_region_held3 (λw'=>w'.cell? ⟨B,0,none⟩=some (.string s)/\w'.cell? ⟨B,1,none⟩=some (.int .i64 (s.size:Int)))
   (go_keep)
   (first|(go_at_call 89;refine(aV _ _ _).mono ?_;rintro e ww ⟨⟨_,rfl⟩|⟨h,rfl⟩,rfl⟩;rotate_left;exact absurd h (by simp)))
  go_wp2_with fail
  go_end0
  exact⟨.inl ⟨trivial,rfl⟩,(Below.refl _ _).drew⟩
 ·have hne:¬(p:Int)=(s.size:Int):=by omega
  go_enter (par.PW (H:=par.Hm)),Tryz.ntmps104
  refine wp_region_held_drew (S:=λw'=>w'.cell? ⟨B,0,none⟩=some (.string s)/\w'.cell? ⟨B,1,none⟩=some (.int .i64 (p:Int))) (by kernel_rfl) ?_ (λhHeld=> ?_)
  ·(try dsimp only);go_keep
  refine tk 0 ?_
  refine tk 1 ?_
  refine tk 2 ?_
  refine tk 3 ?_
  refine tk 4 ?_
  refine tk 5 ?_
  refine tk 6 ?_
  refine tk 7 ?_
  refine tk 8 ?_
  refine tk 9 ?_
  refine co 10 λK hK=> ?_
  go_simp
  refine(aV _ _ _).mono ?_;rintro e ww ⟨⟨h,rfl⟩|⟨_,rfl⟩,rfl⟩
  ·exact absurd h (by simp;omega)
  ·unfold thrown
   exact⟨rfl,rfl,(Below.refl _ _).drew⟩
def uZ(l:List Nat)(p:Nat):rZ:=
 match lU l 2 p []with
 | .er c=>.er c
 | .ok xs q=>
  let a:=xs.getD 0 0
  let b:=xs.getD 1 0
  if a<=255/\b<=a then
   match iG l b.toNat q with
   | .er c=>.er c
   | .ok rs q1=>match xB l (a-b).toNat q1 with
    | .er c=>.er c
    | .ok ss q2=>.ok (jW a b::(rs++ss)) q2
  else .er 3
theorem Ov{w A A':World}{B:Nat}{v:Value}(h:w.grownBy A (some B))(hg:A.grownBy A' v.ownBlock)(ho:∀k,v.ownBlock=some k->w.heap.size<=k):w.grownBy A' (some B):=
 ⟨hg.os.trans h.os,hg.tape.trans h.tape,hg.output.trans h.output,Nat.le_trans h.size hg.size,λk hk hne=>(hg.block k (Nat.lt_of_lt_of_le hk h.size) (λe=>by have:=ho k e.symm;omega)).trans (h.block k hk hne)⟩
theorem Ox{α:Type}{k:Nat}{en:α->List Value}{T:TypeId}{W:World}{N B:Nat}{v:Value}{zs:List α}(h:aX T k en W N v zs)(hB:B<N):some B≠v.ownBlock:=λe=>by have:=h.block _ e.symm;omega
theorem jZ{A B:World}{r:Option Nat}(h:A.grownBy B r)(o:Obj):A.grownBy (B.alloc o) r:=
 ⟨h.os,h.tape,h.output,by have:=h.size;simp;omega,λk hk hne=>(Below.heap_alloc B o k (Nat.lt_of_lt_of_le hk h.size)).trans (h.block k hk hne)⟩
theorem iO{A A':World}{n:Nat}{cs:Array Value}{T:TypeId}{r:Option Nat}(h:aW A n cs T)(hg:A.grownBy A' r)(hr:some n≠r):aW A' n cs T:=aW.of ((hg.block n h.lt hr).trans h.raw)
def zU(k:Nat):Array Value:=madeCells (Value.int .u64 0).cells k
theorem XM(W:World)(c:Nat)(hc:c<1000):aX 24 1 nH (W.alloc (.cells (zU c) 24)) W.heap.size (.slice (some ⟨W.heap.size,0,none⟩) 0 c) []:=by
 unfold aX
 refine⟨rfl,.inr ⟨W.heap.size,c,_,rfl,Nat.le_refl _,World.alloc_heap_new _ _,Nat.zero_le _,by unfold maxLen;omega,?_,rfl⟩⟩
 simp[zU,madeCells,Value.cells]
theorem agE(c:Nat)(W:World)(h:c<1000):(Instr.makeSlice 32 (.int .i64 0) (.int .i64 (c:Int))).run (par.ah par.Hm) W=.ok (.slice (some ⟨W.heap.size,0,none⟩) 0 c) (W.alloc (.cells (zU c) 24)):=by
 obtain⟨i0,hi,hz0,hz1,hz2⟩:=info_parts Dp
 have:=run_make (P:=(par.ah par.Hm)) W 32 24 i0 (.int .u64 0) ((par.aB par.Hm 32).trans Tryz.underlying32) hi hz0 .i64 .i64 0 c (by omega) (by omega) (by rw[hz2];omega) (by omega)
 rw[this,hz1]
 simp[zU]
attribute [irreducible] zU
theorem zL:∀(xs:List Int){zs:List Int},(∀x∈xs,0<=x/\x<18446744073709551616)->jm xs=some zs->∀z∈zs,0<=z/\z<18446744073709551616
 |[],zs,_,h=>by cases h;intro z hz;cases hz
 |a::t,zs,hx,h=>by
  unfold jm at h
  split at h
  ·rename_i ha
   cases ht:jm t with
   |none=>rw[ht]at h;cases h
   |some l=>
    rw[ht]at h
    cases h
    intro z hz
    rcases List.mem_cons.1 hz with rfl|hz
    ·split
     ·omega
     ·rename_i h0
      have:=xg (ha.resolve_left h0)
      omega
    ·exact zL t (λx hx2=>hx x (List.mem_cons_of_mem _ hx2)) ht z hz
  ·cases h
theorem Dt{l:List Nat}(hl:∀b∈l,b<256){n p q:Nat}{xs:List Int}(hp:p<=l.length)(h:iG l n p=.ok xs q):Qu l xs q:=by
 unfold iG at h
 split at h
 ·cases h
 ·rename_i ys q' hr
  have h1:=xw hl _ _ _ ⟨hp,Nat.zero_le _,λx hx=>by cases hx⟩ hr
  split at h
  ·cases h
  ·rename_i zs hz
   cases h
   exact⟨h1.le,by rw[tX _ hz];exact h1.len,zL _ h1.small hz⟩
theorem aZ{W:World}{v:Value}{zs:List Int}(h:jc 1 nH W v zs):∃va vl vc,v=.slice va vl vc:=by
 obtain⟨ad,b,off,cap,e,_⟩:=h.form
 exact⟨ad,_,cap,e⟩
theorem agF{l:List Nat}(hl:∀b∈l,b<256){p q:Nat}{xs:List Int}(hp:p<=l.length)(h:lU l 2 p []=.ok xs q):∃a b:Int,xs=[a,b]/\(0<=a/\a<18446744073709551616)/\(0<=b/\b<18446744073709551616)/\q<=l.length:=by
 have h1:=xA _ _ _ h
 have h2:=xw hl _ _ _ ⟨hp,Nat.zero_le _,λx hx=>by cases hx⟩ h
 match xs,h1 with
 |[a,b],_=>exact⟨a,b,rfl,h2.small a (by simp),h2.small b (by simp),h2.le⟩
set_option maxHeartbeats 4000000 in
theorem TQ(B:Nat)(s:ByteArray)(p:Nat)(w:World)(hs:s.size<10000000000)(hp:p<=s.size)(hB:aW w B (zK s p) 157):
  Calls (par.ah par.Hm) 101 #[.pointer (some ⟨B,0,none⟩)] w λe w'=>yO B s (uZ (au s) p) w e w':=by
 have lB:=hB.lt
 generalize hRR:uZ (au s) p=RR
 unfold uZ at hRR
 go_enter (par.ZH (H:=par.Hm)),Tryz.ntmps101
 go_wp2_with fail
 refine(su B s p 2 _ hs hp (by omega) hB).mono ?_;rintro e w1 ⟨g1,h1⟩
 rcases hrow:lU (au s) 2 p []with⟨xs,q⟩|c
 ·rw[hrow]at hRR h1
  dsimp only at hRR h1
  obtain⟨v,rfl,ho,hB1⟩:=h1
  obtain⟨a,b,rfl,⟨ha0,ha1⟩,⟨hb0,hb1⟩,hq⟩:=agF (bP s) (by rw[aC];exact hp) hrow
  rw[aC]at hq
  simp only[List.getD_cons_zero,List.getD_cons_succ]at hRR
  clear hrow
  obtain⟨ad,bb,off,cap,hv,i1,i2,i3,i4,i5,i6⟩:=(ho.sees aN).form
  obtain rfl:=i1 (by simp)
  replace hv:v=.slice (some ⟨bb,off,none⟩) 2 cap:=hv
  subst hv
  have ca:w1.cell? ⟨bb,off,none⟩=some (.int .u64 a):=by simpa using i6.at (i:=0) (x:=a) rfl 0 _ rfl
  have cb:w1.cell? ⟨bb,off+1,none⟩=some (.int .u64 b):=by simpa using i6.at (i:=1) (x:=b) rfl 0 _ rfl
  have G1:=Lib.hid g1
  have B1:=Lib.hid hB1
  clear g1 hB1 i1 i2 i6 ho i5
  go_wp2_with fail
  obtain⟨a,rfl⟩:=Int.eq_ofNat_of_zero_le ha0
  obtain⟨b,rfl⟩:=Int.eq_ofNat_of_zero_le hb0
  have lw1:=Lib.hid G1.out.size
  by_cases ha:(a:Int)<=255
  ·by_cases hb:(b:Int)<=(a:Int)
   ·rw[if_pos ⟨ha,hb⟩]at hRR
    have HRR:=Lib.hid hRR
    clear hRR
    go_region_held3 (λw'=>w'.cell? ⟨bb,off,none⟩=some (.int .u64 (a:Int))/\w'.cell? ⟨bb,off+1,none⟩=some (.int .u64 (b:Int)))
     (go_keep)
     (first|(go_at_call 89;refine(aV _ _ _).mono ?_;rintro e ww ⟨⟨_,rfl⟩|⟨h,rfl⟩,rfl⟩;rotate_left;exact absurd h (by simp[ha,hb])))
    go_wp2_with fail
    go_region_held3 (λw'=>w'.cell? ⟨bb,off,none⟩=some (.int .u64 (a:Int))/\w'.cell? ⟨bb,off+1,none⟩=some (.int .u64 (b:Int)))
     (go_keep) (fail)
    go_wp2_with fail
    have K2:aW (w1.alloc (.cells #[.int .i64 (a:Int),.int .i64 (b:Int)] 54)).drew.drew w1.heap.size #[.int .i64 (a:Int),.int .i64 (b:Int)] 54:=by exact bk
    have G2:=jd (jd (jZ G1.out (.cells #[.int .i64 (a:Int),.int .i64 (b:Int)] 54)))
    have B2:=((B1.out.alloc (.cells #[.int .i64 (a:Int),.int .i64 (b:Int)] 54)).drew).drew
    refine(Xq _ _ _).mono ?_;rintro e w3 ⟨rfl,b3⟩
    replace G2:=Lib.hid (G2.trans (below_grown b3 _))
    replace B2:=Lib.hid (B2.tr b3)
    replace K2:=K2.tr b3
    have m3:Hid (w1.heap.size+1<=w3.heap.size):=Lib.hid (by have:=b3.size;simpa using this)
    have hpe:rU (a:Int) (b:Int)=0:=by simp[rU,fU,hb];omega
    rw[hpe]
    clear b3 G1 B1 hpe ca cb
    obtain⟨l2,c2,f2⟩:=K2.get
    have hmk:=λW=>agE (a+1) W (by omega)
    simp only[Int.natCast_add,Int.natCast_one]at hmk
    go_wp2_with fail
    refine(aV _ _ _).mono ?_;rintro e ww ⟨⟨_,rfl⟩|⟨h,rfl⟩,rfl⟩;rotate_left;exact absurd h (by decide)
    go_wp2_with (at_builtin;refine rY _ rfl _ _ rfl (w1.heap.size+1) (.slice (some ⟨w3.heap.size,0,none⟩) 0 (a+1)) _ [] [jW a b] rfl rfl ?c0 (KA _ _ (by simp)) ?c1 ?c2 ?c3)
    case c0=>
     refine((XM w3 (a+1) (by omega)).lift ?_).tr ?_
     ·have:=m3.out;omega
     ·exact bm
    case c1=>simp
    case c2=>have:=m3.out;simp;omega
    case c3=>
    intro v5 w5 ho5 hg5 hat
    have m5:Hid (w1.heap.size+1<=w5.heap.size):=Lib.hid (by have:=hg5.size;have:=m3.out;simp at*;omega)
    have O5:=Lib.hid ho5
    have G5:=Lib.hid (Ov (jZ (jZ G2.out (.cells (zU (a+1)) 24)) (.cells #[.int .u64 (jW a b)] 24)) hg5 (λk e=>by have e:w3.heap.size=k:=Option.some.inj e;have:=m3.out;have:=lw1.out;omega))
    have B5:=Lib.hid (iO ((B2.out.alloc (.cells (zU (a+1)) 24)).alloc (.cells #[.int .u64 (jW a b)] 24)) hg5 (λe=>by have e:B=w3.heap.size:=Option.some.inj e;have:=B2.out.lt;omega))
    have K5:=iO ((K2.alloc (.cells (zU (a+1)) 24)).alloc (.cells #[.int .u64 (jW a b)] 24)) hg5 (λe=>by have e:w1.heap.size=w3.heap.size:=Option.some.inj e;have:=K2.lt;omega)
    clear ho5 hg5 hat l2 c2 f2 K2 B2 G2 hmk
    obtain⟨l5,c5,f5⟩:=K5.get
    go_wp2_with fail
    refine(Fv B s q b _ hs hq (by omega) B5.out).mono ?_;rintro e w6 ⟨g6,h6⟩
    have hbn:((b:Int)).toNat=b:=Int.toNat_natCast b
    rw[hbn]at HRR
    rcases hrf:iG (au s) b q with⟨rs,q1⟩|c
    ·rw[hrf]at HRR h6
     dsimp only at HRR h6
     obtain⟨v6,rfl,ho6,hB6⟩:=h6
     have hq1:=Dt (bP s) (by rw[aC];exact hq) hrf
     have agG:=hq1.le
     rw[aC]at agG
     have hrl:rs.length<=10000000000:=by have:=hq1.len;omega
     have K6:=iO K5 g6 (λe=>by have e:w1.heap.size=B:=Option.some.inj e;have:=lw1.out;omega)
     have O6:=Lib.hid (bQ O5.out g6 (by have:=lw1.out;omega))
     have G6:=Lib.hid (G5.out.trans g6)
     have B6:=Lib.hid hB6
     have S6:=Lib.hid (ho6.sees aN)
     have m6:Hid (w1.heap.size+1<=w6.heap.size):=Lib.hid (Nat.le_trans m5.out g6.size)
     have HRL:=Lib.hid hrl
     have HQ1:=Lib.hid hq1
     clear m5 l5 c5 f5 K5 g6 ho6 hB6 O5 G5 B5 hq1 hrl
     obtain⟨va,vl,vc,rfl⟩:=aZ S6.out
     obtain⟨ua,ul,uc,rfl⟩:=aZ (O6.out.sees aN)
     obtain⟨l6,c6,f6⟩:=K6.get
     go_wp2_with (at_builtin;refine rY _ rfl _ _ rfl (w1.heap.size+1) _ _ [jW a b] rs rfl rfl O6.out S6.out ?d1 m6.out ?d3)
     case d1=>have:=HRL.out;simp;omega
     case d3=>
     intro v7 w7 ho7 hg7 hat
     have m7:Hid (w1.heap.size+1<=w7.heap.size):=Lib.hid (Nat.le_trans m6.out hg7.size)
     have O7:=Lib.hid ho7
     have G7:=Lib.hid (Ov G6.out hg7 (λk e=>by have h:=O6.out.block k e;have:=lw1.out;omega))
     have B7:=Lib.hid (iO B6.out hg7 (Ox O6.out (by have:=lw1.out;omega)))
     have K7:=iO K6 hg7 (Ox O6.out (Nat.lt_succ_self _))
     have N7:Hid ((jW a b::rs).length<=10000000001):=Lib.hid (by have:=HRL.out;simp;omega)
     clear ho7 hg7 hat m6 l6 c6 f6 K6 O6 G6 B6 S6
     obtain⟨ta,tl,tc,rfl⟩:=aZ (O7.out.sees aN)
     obtain⟨l7,c7,f7⟩:=K7.get
     have hab:(a:Int)-(b:Int)=((a-b:Nat):Int):=by omega
     have agI:((a:Int)-(b:Int)).toNat=a-b:=by omega
     rw[agI]at HRR
     clear agI
     go_wp2_with fail
     refine(H9 B s q1 (a-b) _ hs agG (by omega) B7.out).mono ?_;rintro e w8 ⟨g8,h8⟩
     rcases hfx:xB (au s) (a-b) q1 with⟨ss,q2⟩|c
     ·rw[hfx]at HRR h8
      dsimp only at HRR h8
      obtain⟨v8,rfl,ho8,hB8⟩:=h8
      have hsl:ss.length<=10000000000:=by
       have h1:=Qv (bP s) hfx
       have h2:=h1.le
       have:=h1.len
       rw[aC]at h2
       omega
      have HSL:=Lib.hid hsl
      have O8:=Lib.hid (bQ O7.out g8 (by have:=lw1.out;omega))
      have G8:=Lib.hid (G7.out.trans g8)
      have B8:=Lib.hid hB8
      have S8:=Lib.hid (ho8.sees aN)
      have m8:Hid (w1.heap.size+1<=w8.heap.size):=Lib.hid (Nat.le_trans m7.out g8.size)
      clear m7 l7 c7 f7 K7 g8 ho8 hB8 O7 G7 B7 hsl
      obtain⟨xa,xl,xc,rfl⟩:=aZ S8.out
      go_wp2_with (at_builtin;refine rY _ rfl _ _ rfl (w1.heap.size+1) _ _ (jW a b::rs) ss rfl rfl O8.out S8.out ?e1 m8.out ?e3)
      case e1=>have:=N7.out;have:=HSL.out;omega
      case e3=>
      intro v9 w9 ho9 hg9 hat
      have O9:=Lib.hid ho9
      have G9:=Lib.hid (Ov G8.out hg9 (λk e=>by have h:=O8.out.block k e;have:=lw1.out;omega))
      have B9:=Lib.hid (iO B8.out hg9 (Ox O8.out (by have:=lw1.out;omega)))
      clear ho9 hg9 hat
      obtain⟨ya,yl,yc,rfl⟩:=aZ (O9.out.sees aN)
      go_wp2_with fail
      go_ret
      refine⟨G9.out,?_⟩
      rw[<-HRR.out]
      exact⟨_,rfl,(by simpa using O9.out.lift (Nat.le_trans lw1.out (Nat.le_succ _))),B9.out⟩
     ·rw[hfx]at HRR h8
      dsimp only at HRR h8
      subst h8
      unfold thrown
      go_wp2_with fail
      refine⟨rfl,G7.out.trans g8,?_⟩
      rw[<-HRR.out]
      rfl
    ·rw[hrf]at HRR h6
     dsimp only at HRR h6
     subst h6
     unfold thrown
     go_wp2_with fail
     refine⟨rfl,G5.out.trans g6,?_⟩
     rw[<-HRR.out]
     rfl
   ·rw[if_neg (λh=>hb h.2)]at hRR
    refine wp_region_held_drew (S:=λw'=>w'.cell? ⟨bb,off,none⟩=some (.int .u64 (a:Int))/\w'.cell? ⟨bb,off+1,none⟩=some (.int .u64 (b:Int))) (by kernel_rfl) ?_ (λhHeld=> ?_)
    ·(try dsimp only);go_keep
    refine tk 0 ?_
    refine tk 1 ?_
    refine tk 2 ?_
    refine tk 3 ?_
    refine tk 4 ?_
    refine tk 5 ?_
    refine tk 6 ?_
    refine tk 7 ?_
    refine tk 8 ?_
    refine tk 9 ?_
    refine tk 10 ?_
    refine tk 11 ?_
    refine tk 12 ?_
    refine co 13 λK hK=> ?_
    go_simp
    refine(aV _ _ _).mono ?_;rintro e ww ⟨⟨h,rfl⟩|⟨_,rfl⟩,rfl⟩
    ·exact absurd h (by simp[hb])
    ·unfold thrown
     refine⟨rfl,jd G1.out,?_⟩
     rw[<-hRR]
     rfl
  ·rw[if_neg (λh=>ha h.1)]at hRR
   refine wp_region_held_drew (S:=λw'=>w'.cell? ⟨bb,off,none⟩=some (.int .u64 (a:Int))/\w'.cell? ⟨bb,off+1,none⟩=some (.int .u64 (b:Int))) (by kernel_rfl) ?_ (λhHeld=> ?_)
   ·(try dsimp only);go_keep
   refine tk 0 ?_
   refine tk 1 ?_
   refine tk 2 ?_
   refine tk 3 ?_
   refine tk 4 ?_
   refine sk 5 ?_
   refine sk 6 ?_
   refine sk 7 ?_
   refine sk 8 ?_
   refine sk 9 ?_
   refine sk 10 ?_
   refine sk 11 ?_
   refine tk 12 ?_
   refine co 13 λK hK=> ?_
   go_simp
   refine(aV _ _ _).mono ?_;rintro e ww ⟨⟨h,rfl⟩|⟨_,rfl⟩,rfl⟩
   ·exact absurd h (by simp[ha])
   ·unfold thrown
    refine⟨rfl,jd G1.out,?_⟩
    rw[<-hRR]
    rfl
 ·rw[hrow]at hRR h1
  dsimp only at hRR h1
  subst h1
  unfold thrown
  go_wp2_with fail
  refine⟨rfl,g1,?_⟩
  rw[<-hRR]
  rfl
end Go.Proofs.YtlncengggmgdgaaGreat.ps
