/- Slices of numbers and of objects that are read; they are compared. No conditions. -/
import Derived.Test.YtpgjploaliefdaaGreatG02
import Derived.RegionTactic
namespace Go.Proofs.YtpgjploaliefdaaGreat.ob
open Go.RowKit hd
set_option linter.unusedVariables false
set_option linter.unusedSimpArgs false
def mV(W:World)(b off len:Nat)(zs:List Int):Prop:=∀i,i<len->W.cell? ⟨b,off+i,none⟩=some (.int .i64 (zs.getD i 0))
theorem mV.block{A B:World}{b off len:Nat}{zs:List Int}(h:mV A b off len zs)(hb:B.heap[b]? =A.heap[b]?):mV B b off len zs:=λi hi=>by
 rw[<-h i hi];simp[World.cell?,hb]
theorem mV.at{A:World}{b off len:Nat}{zs:List Int}(h:mV A b off len zs)(i:Nat)(hi:i<len):A.cell? ⟨b,off+i,none⟩=some (.int .i64 (zs.getD i 0)):=h i hi
theorem mV.lt{A:World}{b off len:Nat}{zs:List Int}(h:mV A b off len zs)(h0:0<len):b<A.heap.size:=World.block_lt_of_cell? _ _ (h 0 h0)
theorem mV.none(W:World)(b off:Nat)(zs:List Int):mV W b off 0 zs:=λi hi=>absurd hi (Nat.not_lt_zero _)
theorem jH{A:World}{b off len:Nat}{zs:List Int}(h:∀i,i<len->A.cell? ⟨b,off+i,Option.none⟩=some (.int .u64 (zs.getD i 0))):bC A b off len zs:=by unfold bC;exact h
theorem G6{A:World}{b off len:Nat}{zs:List Int}(h:∀i,i<len->A.cell? ⟨b,off+i,Option.none⟩=some (.int .i64 (zs.getD i 0))):mV A b off len zs:=h
attribute [irreducible] mV
def dL(l:List Ob)(i:Nat):Ob:=l.getD i ⟨0,0,0,false,0⟩
def ig(W:World)(b off len:Nat)(l:List Ob):Prop:=∀i,i<len->W.cell? ⟨b,off+i*5,none⟩=some (.int .i64 (dL l i).pos)/\W.cell? ⟨b,off+i*5+1,none⟩=some (.int .i64 (dL l i).s)/\W.cell? ⟨b,off+i*5+2,none⟩=some (.int .i64 (dL l i).p)/\W.cell? ⟨b,off+i*5+3,none⟩=some (.bool (dL l i).g)/\W.cell? ⟨b,off+i*5+4,none⟩=some (.int .u64 (dL l i).t)
theorem ig.block{A B:World}{b off len:Nat}{zs:List Ob}(h:ig A b off len zs)(hb:B.heap[b]? =A.heap[b]?):ig B b off len zs:=λi hi=>by
 obtain⟨h0,h1,h2,h3,h4⟩:=h i hi
 refine⟨?_,?_,?_,?_,?_⟩
 ·rw[<-h0];simp[World.cell?,hb]
 ·rw[<-h1];simp[World.cell?,hb]
 ·rw[<-h2];simp[World.cell?,hb]
 ·rw[<-h3];simp[World.cell?,hb]
 ·rw[<-h4];simp[World.cell?,hb]
theorem ig.at{A:World}{b off len:Nat}{l:List Ob}(h:ig A b off len l)(i:Nat)(hi:i<len):A.cell? ⟨b,off+i*5,none⟩=some (.int .i64 (dL l i).pos)/\A.cell? ⟨b,off+i*5+1,none⟩=some (.int .i64 (dL l i).s)/\A.cell? ⟨b,off+i*5+2,none⟩=some (.int .i64 (dL l i).p)/\A.cell? ⟨b,off+i*5+3,none⟩=some (.bool (dL l i).g)/\A.cell? ⟨b,off+i*5+4,none⟩=some (.int .u64 (dL l i).t):=h i hi
theorem ig.lt{A:World}{b off len:Nat}{l:List Ob}(h:ig A b off len l)(h0:0<len):b<A.heap.size:=World.block_lt_of_cell? _ _ (h 0 h0).1
theorem ig.of{W:World}{b off len:Nat}{l:List Ob}(h:∀i,i<len->W.cell? ⟨b,off+i*5,none⟩=some (.int .i64 (dL l i).pos)/\W.cell? ⟨b,off+i*5+1,none⟩=some (.int .i64 (dL l i).s)/\W.cell? ⟨b,off+i*5+2,none⟩=some (.int .i64 (dL l i).p)/\W.cell? ⟨b,off+i*5+3,none⟩=some (.bool (dL l i).g)/\W.cell? ⟨b,off+i*5+4,none⟩=some (.int .u64 (dL l i).t)):ig W b off len l:=h
theorem ig.none(W:World)(b off:Nat)(l:List Ob):ig W b off 0 l:=λi hi=>absurd hi (Nat.not_lt_zero _)
attribute [irreducible] ig
def aN(W:World)(v:Value)(zs:List Int):Prop:=∃(ad:Option Addr)(b off cap:Nat),v=.slice ad zs.length cap/\((0<zs.length->ad=some ⟨b,off,none⟩)/\(ad=none->cap=0))/\zs.length<=cap/\(cap<9223372036854775808/\zs.length<1000000000000)/\b<W.heap.size/\bC W b off zs.length zs
theorem aN.tr{W w:World}{v:Value}{zs:List Int}(h:aN W v zs)(hb:Below W.heap.size W w):aN w v zs:=by
 obtain⟨ad,b,off,cap,e,h1,h2,h3,h4,h5⟩:=h
 exact⟨ad,b,off,cap,e,h1,h2,h3,Nat.lt_of_lt_of_le h4 hb.size,h5.block (hb.block b h4)⟩
theorem aN.nil{W:World}(h:0<W.heap.size):aN W (.slice none 0 0) []:=⟨none,0,0,0,rfl,⟨λh=>by simp at h,λ_=>rfl⟩,Nat.le_refl _,by simp,h,bC.none _ _ _ _⟩
theorem aN.alloc{W:World}{v:Value}{zs:List Int}(h:aN W v zs)(o:Obj):aN (W.alloc o) v zs:=h.tr ((Below.refl _ _).alloc (Nat.le_refl _) _)
theorem aN.drew{W:World}{v:Value}{zs:List Int}(h:aN W v zs):aN W.drew v zs:=h.tr (Below.refl _ _).drew
def IntsIn(W:World)(v:Value)(zs:List Int):Prop:=∃(ad:Option Addr)(b off cap:Nat),v=.slice ad zs.length cap/\((0<zs.length->ad=some ⟨b,off,none⟩)/\(ad=none->cap=0))/\zs.length<=cap/\(cap<9223372036854775808/\zs.length<1000000000000)/\b<W.heap.size/\mV W b off zs.length zs
theorem IntsIn.tr{W w:World}{v:Value}{zs:List Int}(h:IntsIn W v zs)(hb:Below W.heap.size W w):IntsIn w v zs:=by
 obtain⟨ad,b,off,cap,e,h1,h2,h3,h4,h5⟩:=h
 exact⟨ad,b,off,cap,e,h1,h2,h3,Nat.lt_of_lt_of_le h4 hb.size,h5.block (hb.block b h4)⟩
theorem IntsIn.nil{W:World}(h:0<W.heap.size):IntsIn W (.slice none 0 0) []:=⟨none,0,0,0,rfl,⟨λh=>by simp at h,λ_=>rfl⟩,Nat.le_refl _,by simp,h,mV.none _ _ _ _⟩
theorem IntsIn.alloc{W:World}{v:Value}{zs:List Int}(h:IntsIn W v zs)(o:Obj):IntsIn (W.alloc o) v zs:=h.tr ((Below.refl _ _).alloc (Nat.le_refl _) _)
theorem IntsIn.drew{W:World}{v:Value}{zs:List Int}(h:IntsIn W v zs):IntsIn W.drew v zs:=h.tr (Below.refl _ _).drew
def bT(W:World)(v:Value)(zs:List Ob):Prop:=∃(ad:Option Addr)(b off cap:Nat),v=.slice ad zs.length cap/\((0<zs.length->ad=some ⟨b,off,none⟩)/\(ad=none->cap=0))/\zs.length<=cap/\(cap<9223372036854775808/\zs.length<1000000000000)/\b<W.heap.size/\ig W b off zs.length zs
theorem bT.tr{W w:World}{v:Value}{zs:List Ob}(h:bT W v zs)(hb:Below W.heap.size W w):bT w v zs:=by
 obtain⟨ad,b,off,cap,e,h1,h2,h3,h4,h5⟩:=h
 exact⟨ad,b,off,cap,e,h1,h2,h3,Nat.lt_of_lt_of_le h4 hb.size,h5.block (hb.block b h4)⟩
theorem bT.nil{W:World}(h:0<W.heap.size):bT W (.slice none 0 0) []:=⟨none,0,0,0,rfl,⟨λh=>by simp at h,λ_=>rfl⟩,Nat.le_refl _,by simp,h,ig.none _ _ _ _⟩
theorem bT.alloc{W:World}{v:Value}{zs:List Ob}(h:bT W v zs)(o:Obj):bT (W.alloc o) v zs:=h.tr ((Below.refl _ _).alloc (Nat.le_refl _) _)
theorem bT.drew{W:World}{v:Value}{zs:List Ob}(h:bT W v zs):bT W.drew v zs:=h.tr (Below.refl _ _).drew
def Small(zs:List Int):Prop:=∀i,0<=zs.getD i 0/\zs.getD i 0<18446744073709551616
theorem Xd{α:Type}{xs ys:List α}(hl:xs.length=ys.length){k:Nat}(d:α)(h:xs.take k=ys.take k)(e:xs.getD k d=ys.getD k d):xs.take (k+1)=ys.take (k+1):=by
 by_cases hk:k<xs.length
 ·rw[List.take_add_one,List.take_add_one,h]
  congr 1
  simp only[List.getD,List.getElem?_eq_getElem hk,List.getElem?_eq_getElem (hl▸hk)]at e⊢
  simpa using e
 ·rw[List.take_of_length_le (by omega),List.take_of_length_le (by omega)]
  rw[List.take_of_length_le (by omega),List.take_of_length_le (by omega)]at h
  exact h
theorem TR{α:Type}{xs ys:List α}(hl:xs.length=ys.length){k:Nat}(hk:xs.length<=k)(h:xs.take k=ys.take k):xs=ys:=by
 rw[List.take_of_length_le hk,List.take_of_length_le (by omega)]at h
 exact h
set_option maxHeartbeats 1000000 in
theorem acn(v u:Value)(xs ys:List Int)(w:World)(hx:aN w v xs)(hy:aN w u ys):
  Calls Tryz.prog 55 #[v,u] w λe w'=>e=.returned (.bool (decide (xs=ys)))/\Below w.heap.size w w':=by
 obtain⟨ad,b,off,cap,rfl,h1,h2,h3,h4,h5⟩:=hx
 obtain⟨ad',b',off',cap',rfl,h1',h2',h3',h4',h5'⟩:=hy
 by_cases hl:xs.length=ys.length
 ·generalize hm:ys.length=m at*
  generalize hn:xs.length=n at*
  subst hl
  have HL:Hid (xs.length=n/\ys.length=n):=⟨hn,hm⟩
  clear hn hm
  go_enter Tryz.func55,Tryz.ntmps55
  go_wp2_with fail
  go_loopw [5] (λi wr=>∃k:Nat,k<=n/\i=.int .i64 k/\Hid (xs.take k=ys.take k)/\Below w.heap.size w wr) (λi _=>n-(intOf i).toNat)
  case atStart=>exact⟨0,Nat.zero_le _,rfl,by simp[Hid],Below.refl _ _⟩
  case round=>
   obtain⟨k,hk,rfl,ht,hb⟩:=hrel
   by_cases hlk:k<n
   ·obtain rfl:=h1.1 (by omega)
    obtain rfl:=h1'.1 (by omega)
    have hxk:=(h5.block (hb.block b h4)).at k (by omega)
    have hyk:=(h5'.block (hb.block b' h4')).at k (by omega)
    have HT:=Lib.hid (Xd (xs:=xs) (ys:=ys) (k:=k) (by have:=HL.out;omega) 0 ht.out)
    have HE:Hid (xs=ys->xs.getD k 0=ys.getD k 0):=λe=>by rw[e]
    have HB:=Lib.hid hb
    clear h1 h1' hb
    generalize xs.getD k 0=x at*
    generalize ys.getD k 0=y at*
    by_cases hxy:x=y
    ·have hbq:(x==y)=true:=by simp[hxy]
     subst hxy
     go_wp2_with fail
     go_region
     go_wp2_with fail
     refine⟨⟨k+1,by omega,by go_num,HT.out (by trivial),?_⟩,by simp[intOf];omega⟩
     have:=HB.out
     exact bm
    ·have hbq:(x==y)=false:=by simp[hxy]
     go_wp2_with fail
     go_region
     go_wp2_with fail
     go_ret
     refine Lh (by symm;exact decide_eq_false λe=>hxy (HE.out e)) ?_
     have:=HB.out
     exact bm
   ·have HE:Hid (xs=ys):=TR (by have:=HL.out;omega) (by have:=HL.out;omega) ht.out
    have HB:=Lib.hid hb
    clear h1 h1' hb
    go_wp2_with fail
    go_ret
    refine Lh (by symm;exact decide_eq_true HE.out) ?_
    have:=HB.out
    exact bm
 ·have hne:Hid (¬xs=ys):=λe=>hl (by rw[e])
  have hbq:((xs.length:Int)==(ys.length:Int))=false:=beq_eq_false_iff_ne.mpr (by omega)
  generalize ys.length=m at*
  generalize xs.length=n at*
  clear h1 h1' hl
  go_enter Tryz.func55,Tryz.ntmps55
  go_wp2_with fail
  go_ret
  refine Lh (by symm;exact decide_eq_false hne.out) ?_
  exact bm
theorem afO{a b:Ob}(h:oV a=oV b):a=b:=by
 obtain⟨a0,a1,a2,a3,a4⟩:=a
 obtain⟨b0,b1,b2,b3,b4⟩:=b
 simp[oV]at h
 obtain⟨rfl,rfl,rfl,rfl,rfl⟩:=h
 rfl
instance:DecidableEq Ob:=λa b=>if h:a.pos=b.pos/\a.s=b.s/\a.p=b.p/\a.g=b.g/\a.t=b.t then .isTrue (by cases a;cases b;simp at h;simp[h])else .isFalse (λe=>h (by rw[e];simp))
def obB(a b:Ob):Bool:=a.pos==b.pos&&(a.s==b.s&&a.p==b.p)&&a.g==b.g&&a.t==b.t
theorem aeV(a b:Ob):obB a b=true↔a=b:=by
 cases a;cases b;simp[obB,and_assoc]
end Go.Proofs.YtpgjploaliefdaaGreat.ob
