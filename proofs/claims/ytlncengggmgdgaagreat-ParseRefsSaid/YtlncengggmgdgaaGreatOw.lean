/- objects.walk: a range over a throwing iterator, recovered: specification and contracts. No conditions. -/
import Derived.Test.YtlncengggmgdgaaGreatG22
import Derived.Test.YtlncengggmgdgaaGreatRt
import Derived.Shelf.Abstract
import Derived.WalkKit
import Derived.OwnWalkIn
import Derived.TacticsInMore
import Derived.LoopNIn
import Derived.LoopIn
import Derived.Maps.AppendAt
set_option linter.unusedVariables false
set_option linter.unusedSimpArgs false
set_option maxRecDepth 100000
namespace Go.Proofs.YtlncengggmgdgaaGreat.ob
open Go.RowKit Go.Shelf hd rt
attribute [local irreducible] par.ah
attribute [local go_sem] Oper.semAt_some
inductive Res where
 |ok (l:List Ob) (k:Nat)
 |err (e:Int) (k:Nat)
def Ho(o:Ob)(zs:List Int)(k:Nat):Bool:=(List.range k).all λi=>iE o i (zs.getD (o.pos.toNat+1+i) 0)
theorem Dk(o:Ob)(zs:List Int)(k:Nat):Ho o zs k=true↔nT o zs k:=by simp[Ho,nT]
def iL(bg:Nat->Nat->Int->Option (Ob×Nat))(zs:List Int)(len:Nat):Nat->Nat->Nat->List Ob->Res
 |0,k,_,_=>.err 9 k
 |f+1,k,pos,acc=>
  if pos<len then
   match bg k pos (zs.getD pos 0)with
   |none=>.err 3 k
   |some (o,k')=>if len<pos+1+o.s.toNat then .err 2 k' else if Ho o zs o.s.toNat then iL bg zs len f k' (pos+1+o.s.toNat) (acc++[o])else .err 3 k'
  else .ok acc k
theorem Oi{bg:Nat->Nat->Int->Option (Ob×Nat)}{zs:List Int}{len f k pos:Nat}{acc:List Ob}(h:pos<len):iL bg zs len (f+1) k pos acc=match bg k pos (zs.getD pos 0)with
   |none=>.err 3 k
   |some (o,k')=>if len<pos+1+o.s.toNat then .err 2 k' else if Ho o zs o.s.toNat then iL bg zs len f k' (pos+1+o.s.toNat) (acc++[o])else .err 3 k':=by
 show(if pos<len then _ else _)=_
 rw[if_pos h]
theorem Tz{bg:Nat->Nat->Int->Option (Ob×Nat)}{zs:List Int}{len f k pos:Nat}{acc:List Ob}(h:¬pos<len):iL bg zs len (f+1) k pos acc=.ok acc k:=by
 show(if pos<len then _ else _)=_
 rw[if_neg h]
def dV(W:World)(b off len:Nat)(zs:List Int):Prop:=∀i,i<len->W.cell? ⟨b,off+i,none⟩=some (.int .u64 (zs.getD i 0))
theorem dV.block{A B:World}{b off len:Nat}{zs:List Int}(h:dV A b off len zs)(hb:B.heap[b]? =A.heap[b]?):dV B b off len zs:=λi hi=>by
 rw[<-h i hi];simp[World.cell?,hb]
theorem dV.at{A:World}{b off len:Nat}{zs:List Int}(h:dV A b off len zs)(i:Nat)(hi:i<len):A.cell? ⟨b,off+i,none⟩=some (.int .u64 (zs.getD i 0)):=h i hi
theorem dV.lt{A:World}{b off len:Nat}{zs:List Int}(h:dV A b off len zs)(h0:0<len):b<A.heap.size:=World.block_lt_of_cell? _ _ (h 0 h0)
theorem dV.none(W:World)(b off:Nat)(zs:List Int):dV W b off 0 zs:=λi hi=>absurd hi (Nat.not_lt_zero _)
attribute [irreducible] dV
structure Hq(b off len cap:Nat)(zs:List Int)(gv:Value)(St:Nat->World->Prop)(bg:Nat->Nat->Int->Option (Ob×Nat))(row:Option Nat):Prop where
 grown:∀k A B,St k A->A.grownBy B none->St k B
 small:∀k pos x o k',bg k pos x=some (o,k')->o.pos=(pos:Int)/\0<=o.s/\o.s<=255
 calls:∀k pos W,pos<len->St k W->dV W b off len zs->Calls (par.ah par.Hm) 174 #[.slice (some ⟨b,off,none⟩) len cap,.int .i64 (pos:Int),gv] W λe W'=>W.grownBy W' row/\
  ((∃o k',bg k pos (zs.getD pos 0)=some (o,k')/\e=.returned (oV o)/\St k' W')\/(bg k pos (zs.getD pos 0)=none/\e=.panicked [{v:=rV 3,recovered:=false}]/\St k W'))
theorem below_grown{A B:World}(h:Below A.heap.size A B)(row:Option Nat):A.grownBy B row:=⟨h.os,h.tape,h.output,h.size,λk hk _=>h.block k hk⟩
structure nZ(b off len cap:Nat)(zs:List Int)(gv sv:Value)(St:Nat->World->Prop)(Bw Bg k:Nat)(W:World):Prop where
 words:dV W b off len zs
 st:St k W
 box:aW W Bw #[sv] 32
 gone:aW W Bg #[gv] 208
theorem nZ.next{b off len cap:Nat}{zs:List Int}{gv sv:Value}{St:Nat->World->Prop}{Bw Bg k k':Nat}{W W':World}{row:Option Nat}(h:nZ b off len cap zs gv sv St Bw Bg k W)(hg:W.grownBy W' row)(hrow:∀r,row=some r->r≠Bw/\r≠Bg/\r≠b)(hst:St k' W'):
  nZ b off len cap zs gv sv St Bw Bg k' W':=by
 refine⟨?_,hst,?_,?_⟩
 ·rcases Nat.eq_zero_or_pos len with h0|h0
  ·subst h0;exact dV.none _ _ _ _
  ·exact h.words.block (hg.block b (h.words.lt h0) (λe=>(hrow b e.symm).2.2 rfl))
 ·exact aW.of ((hg.block Bw h.box.lt (λe=>(hrow Bw e.symm).1 rfl)).trans h.box.raw)
 ·exact aW.of ((hg.block Bg h.gone.lt (λe=>(hrow Bg e.symm).2.1 rfl)).trans h.gone.raw)
theorem nZ.kept{b off len cap:Nat}{zs:List Int}{gv sv:Value}{St:Nat->World->Prop}{Bw Bg k n₀ L:Nat}{A W W':World}(h:nZ b off len cap zs gv sv St Bw Bg k W)(hk:Qr n₀ L A W W')(hBw:Bw<n₀/\Bw≠L)(hBg:Bg<n₀/\Bg≠L)(hb:0<len->b<n₀/\b≠L)(hst:St k W'):
  nZ b off len cap zs gv sv St Bw Bg k W':=by
 refine⟨?_,hst,?_,?_⟩
 ·rcases Nat.eq_zero_or_pos len with h0|h0
  ·subst h0;exact dV.none _ _ _ _
  ·exact h.words.block (hk.2 b (h.words.lt h0) (.inl (hb h0)))
 ·exact aW.of ((hk.2 Bw h.box.lt (.inl hBw)).trans h.box.raw)
 ·exact aW.of ((hk.2 Bg h.gone.lt (.inl hBg)).trans h.gone.raw)
theorem Oj{A B:World}{row:Option Nat}(h:A.grownBy B row)(o:Obj):A.grownBy (B.alloc o) row:=
 ⟨h.os,h.tape,h.output,by have:=h.size;simp;omega,λk hk hne=>(Below.heap_alloc B o k (Nat.lt_of_lt_of_le hk h.size)).trans (h.block k hk hne)⟩
set_option maxHeartbeats 4000000 in
theorem Hr(n:Nat)(hn:1<=n)(b off len cap:Nat)(ad:Option Addr)(zs:List Int)(gv:Value)(St:Nat->World->Prop)(bg:Nat->Nat->Int->Option (Ob×Nat))(row:Option Nat)(hok:Hq b off len cap zs gv St bg row)
  (had:0<len->ad=some ⟨b,off,none⟩) (hlc:len<=cap) (hcap:cap<9223372036854775808) (hz:∀i,0<=zs.getD i 0/\zs.getD i 0<18446744073709551616) (hS:∀S:Nat,S<=255->len+1+S<9223372036854775808)
  (w0:World) (L Bw Bg:Nat) (hBw:Bw<w0.heap.size/\Bw≠L) (hBg:Bg<w0.heap.size/\Bg≠L) (hb:0<len->b<w0.heap.size/\b≠L) (hrow:∀r,row=some r->r≠Bw/\r≠Bg/\r≠b)
  (aef:∀k A W1 W',w0.heap.size<=W1.heap.size->St k W1->Qr w0.heap.size L A W1 W'->St k W') (h0:nZ b off len cap zs gv (.slice ad len cap) St Bw Bg 0 w0):
  Fq Fence.wide n (par.ah par.Hm) 173 #[.pointer (some ⟨Bw,0,none⟩),.pointer (some ⟨Bg,0,none⟩)] (λo:Ob=> #[oV o]) L
   (λxs W=>∃k,iL bg zs len (len+1) 0 0 []=.ok xs k/\St k W) (λchain W=>∃e k,iL bg zs len (len+1) 0 0 []=.err e k/\chain=[{v:=rV e,recovered:=false}]/\St k W) row len w0:=by
 intro l J W hW hJ hY hJ0
 have hfn:=(par.GK (H:=par.Hm))
 refine callsIn_of_wp (par.GK (H:=par.Hm)) rfl trivial ?_ rfl
 simp only[Tryz.ntmps173,List.size_toArray,List.length_cons,List.length_nil,Nat.reduceAdd,Nat.reduceSub,Array.replicate_succ,Array.replicate_zero,List.push_toArray,List.append_toArray,List.nil_append,List.cons_append]
 have hE0:nZ b off len cap zs gv (.slice ad len cap) St Bw Bg 0 W:=by
  refine⟨?_,hok.grown _ _ _ h0.st (below_grown hW none),h0.box.tr hW,h0.gone.tr hW⟩
  rcases Nat.eq_zero_or_pos len with h|h
  ·subst h;exact dV.none _ _ _ _
  ·exact h0.words.block (hW.block b (hb h).1)
 gi_wp2
 gi_loopw [4] (λi wr=>∃(k pos f:Nat)(acc:List Ob),i=.int .i64 pos/\pos<=len/\acc.length<=pos/\len-pos<f/\Hid (iL bg zs len (len+1) 0 0 []=iL bg zs len f k pos acc)/\J acc wr/\W.heap.size<=wr.heap.size/\nZ b off len cap zs gv (.slice ad len cap) St Bw Bg k wr) (λi _=>len-(intOf i).toNat)
 case atStart=>exact⟨0,0,len+1,[],rfl,by omega,Nat.le_refl _,by omega,rfl,hJ0,Nat.le_refl _,hE0⟩
 case round=>
  obtain⟨k,pos,f,acc,rfl,hpl,hal,hf,hres,hJw,hsz,hE⟩:=hrel
  obtain⟨lw,cw,fw⟩:=hE.box.get
  have cw0:=cw 0
  obtain⟨lg,cg,fg⟩:=hE.gone.get
  have cg0:=cg 0
  clear hE0
  by_cases hlt:pos<len
  ·obtain rfl:=had (by omega)
   obtain⟨f,rfl⟩:∃f',f=f'+1:=⟨f-1,by omega⟩
   have hres2:=Lib.hid (Oi (bg:=bg) (zs:=zs) (f:=f) (k:=k) (acc:=acc) hlt)
   gi_wp2_with fail
   refine⟨trivial,(callsIn_wide.2 (hok.calls k pos wr hlt hE.st hE.words)).mono ?_⟩
   rintro e w2 ⟨hg2,⟨o,k2,hbg,rfl,hst2⟩|⟨hbg,rfl,hst2⟩⟩
   ·obtain⟨hop,ho0,agB⟩:=hok.small _ _ _ _ _ hbg
    obtain⟨p0,s,p,g,t⟩:=o
    dsimp only at hop ho0 agB
    subst hop
    obtain⟨S,rfl⟩:=Int.eq_ofNat_of_zero_le ho0
    have hE2:=hE.next hg2 hrow hst2
    have aaO:=hE2.next (World.grownBy_alloc w2 (.cells #[.int .i64 pos,.int .i64 S,.int .i64 p,.bool g,.int .u64 t] 56) none) (λr e=>by cases e) (hok.grown _ _ _ hE2.st (World.grownBy_alloc w2 _ none))
    have ajm:=Oj hg2 (.cells #[.int .i64 pos,.int .i64 S,.int .i64 p,.bool g,.int .u64 t] 56)
    have hBo:aW (w2.alloc (.cells #[.int .i64 pos,.int .i64 S,.int .i64 p,.bool g,.int .u64 t] 56)) w2.heap.size #[.int .i64 pos,.int .i64 S,.int .i64 p,.bool g,.int .u64 t] 56:=aW.new _ _ _
    clear lw cw fw cw0 lg cg fg cg0 hE
    obtain⟨lw,cw,fw⟩:=aaO.box.get
    have cw0:=cw 0
    unfold oV
    gi_wp2_with fail
    refine⟨trivial,(callsIn_wide.2 (Df b off len cap pos S p t g zs _ hlt hlc hcap (by omega) (λi hi=>aaO.words.at i hi) hz)).mono ?_⟩
    rintro e w3 ⟨hp3,k3⟩
    have hg3:wr.grownBy w3 row:=ajm.trans (below_grown k3 row)
    have hE3:=aaO.next (below_grown k3 none) (λr e=>by cases e) (hok.grown _ _ _ aaO.st (below_grown k3 none))
    have agC:=hBo.tr k3
    rcases hp3 with⟨hp3,rfl⟩|⟨hp3,hso,rfl⟩|⟨hp3,hso,rfl⟩
    ·gi_wp2_with fail
     exact⟨rfl,.inr ⟨_,acc,rfl,⟨2,k2,by rw[hres.out,hres2.out,hbg];simp[hp3],rfl,hE3.st⟩,hJ _ _ _ hJw hg3⟩⟩
    ·clear lw cw fw cw0
     have aeg:=Lib.hid ((Dk _ _ _).2 hso)
     have agD:Hid (iL bg zs len (f+1) k pos acc=iL bg zs len f k2 (pos+1+S) (acc++[⟨pos,S,p,g,t⟩])):=by
      show _=_
      rw[hres2.out,hbg]
      have:=aeg.out
      simp only[Int.toNat_natCast]
      rw[if_neg (by omega),if_pos this]
     clear hso
     obtain⟨lo,co,fo⟩:=agC.get
     obtain⟨fn,tmps,assign,body,hy,hR⟩:=hY acc ⟨pos,S,p,g,t⟩ wr w3 hJw (by omega) hsz hg3
     unfold oV at hy
     gi_wp2_with fail
     refine hR.mono ?_
     rintro e w4 ⟨rfl,hJ4,hk4⟩
     have ajn:aW w4 w2.heap.size #[.int .i64 pos,.int .i64 S,.int .i64 p,.bool g,.int .u64 t] 56:=aW.of ((hk4.2 _ lo (.inr (by exact hg2.size))).trans agC.raw)
     have hE4:=hE3.kept hk4 hBw hBg hb (aef _ _ _ _ (Nat.le_trans hW.size (Nat.le_trans hsz hg3.size)) hE3.st hk4)
     have ajo:W.heap.size<=w4.heap.size:=Nat.le_trans hsz (Nat.le_trans hg3.size hk4.1)
     clear lo co fo
     obtain⟨lo,co,fo⟩:=ajn.get
     have co1:=co 1
     gi_wp2_with fail
     exact⟨⟨k2,pos+1+S,f,_,by go_num,by omega,by simp;omega,by omega,hres.out.trans agD.out,hJ4,ajo,hE4⟩,by simp[intOf];omega⟩
    ·have aeg:=Lib.hid (λq=>hso ((Dk _ _ _).1 q))
     clear hso
     gi_wp2_with fail
     exact⟨rfl,.inr ⟨_,acc,rfl,⟨3,k2,by rw[hres.out,hres2.out,hbg];have:=aeg.out;simp only[Int.toNat_natCast];rw[if_neg (by omega),if_neg this],rfl,hE3.st⟩,hJ _ _ _ hJw hg3⟩⟩
   ·gi_wp2_with fail
    exact⟨rfl,.inr ⟨_,acc,rfl,⟨3,k,by rw[hres.out,hres2.out,hbg],rfl,hst2⟩,hJ _ _ _ hJw hg2⟩⟩
  ·obtain⟨f,rfl⟩:∃f',f=f'+1:=⟨f-1,by omega⟩
   have hres2:=Lib.hid (Tz (bg:=bg) (zs:=zs) (f:=f) (k:=k) (acc:=acc) hlt)
   obtain rfl:pos=len:=by omega
   gi_wp2_with fail
   go_end0
   exact .inl ⟨⟨_,rfl⟩,acc,⟨k,by rw[hres.out,hres2.out],hE.st⟩,hJw⟩
end Go.Proofs.YtlncengggmgdgaaGreat.ob
