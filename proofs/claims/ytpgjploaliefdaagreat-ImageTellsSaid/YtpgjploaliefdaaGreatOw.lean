/- objects.walk: a range over a throwing iterator, recovered: specification and contracts. No conditions. -/
import Derived.Test.YtpgjploaliefdaaGreatG01
import Derived.Test.YtpgjploaliefdaaGreatRt
import Derived.Shelf.Abstract
import Derived.WalkKit
import Derived.OwnWalkIn
import Derived.TacticsInMore
import Derived.LoopNIn
import Derived.LoopIn
import Derived.Maps.AppendAt
namespace Go.Proofs.YtpgjploaliefdaaGreat.ob
open Go.RowKit Go.Shelf hd rt
set_option linter.unusedVariables false
set_option linter.unusedSimpArgs false
attribute [local go_sem] Oper.semAt_some
inductive TI where
 |ok (l:List Ob) (k:Nat)
 |err (e:Int) (k:Nat)
def iK(o:Ob)(zs:List Int)(k:Nat):Bool:=(List.range k).all λi=>gU o i (zs.getD (o.pos.toNat+1+i) 0)
theorem mP(o:Ob)(zs:List Int)(k:Nat):iK o zs k=true↔oP o zs k:=by simp[iK,oP]
def aV(bg:Nat->Nat->Int->Option (Ob×Nat))(zs:List Int)(len:Nat):Nat->Nat->Nat->List Ob->TI
 |0,k,_,_=>.err 9 k
 |f+1,k,pos,acc=>
  if pos<len then
   match bg k pos (zs.getD pos 0)with
   |none=>.err 3 k
   |some (o,k')=>if len<pos+1+o.s.toNat then .err 2 k' else if iK o zs o.s.toNat then aV bg zs len f k' (pos+1+o.s.toNat) (acc++[o])else .err 3 k'
  else .ok acc k
theorem fC{bg:Nat->Nat->Int->Option (Ob×Nat)}{zs:List Int}{len f k pos:Nat}{acc:List Ob}(h:pos<len):aV bg zs len (f+1) k pos acc=match bg k pos (zs.getD pos 0)with
   |none=>.err 3 k
   |some (o,k')=>if len<pos+1+o.s.toNat then .err 2 k' else if iK o zs o.s.toNat then aV bg zs len f k' (pos+1+o.s.toNat) (acc++[o])else .err 3 k':=by
 show(if pos<len then _ else _)=_
 rw[if_pos h]
theorem gQ{bg:Nat->Nat->Int->Option (Ob×Nat)}{zs:List Int}{len f k pos:Nat}{acc:List Ob}(h:¬pos<len):aV bg zs len (f+1) k pos acc=.ok acc k:=by
 show(if pos<len then _ else _)=_
 rw[if_neg h]
def bC(W:World)(b off len:Nat)(zs:List Int):Prop:=∀i,i<len->W.cell? ⟨b,off+i,none⟩=some (.int .u64 (zs.getD i 0))
theorem bC.block{A B:World}{b off len:Nat}{zs:List Int}(h:bC A b off len zs)(hb:B.heap[b]? =A.heap[b]?):bC B b off len zs:=λi hi=>by
 rw[<-h i hi];simp[World.cell?,hb]
theorem bC.at{A:World}{b off len:Nat}{zs:List Int}(h:bC A b off len zs)(i:Nat)(hi:i<len):A.cell? ⟨b,off+i,none⟩=some (.int .u64 (zs.getD i 0)):=h i hi
theorem bC.lt{A:World}{b off len:Nat}{zs:List Int}(h:bC A b off len zs)(h0:0<len):b<A.heap.size:=World.block_lt_of_cell? _ _ (h 0 h0)
theorem bC.none(W:World)(b off:Nat)(zs:List Int):bC W b off 0 zs:=λi hi=>absurd hi (Nat.not_lt_zero _)
attribute [irreducible] bC
structure CS(b off len cap:Nat)(zs:List Int)(gv:Value)(St:Nat->World->Prop)(bg:Nat->Nat->Int->Option (Ob×Nat))(row:Option Nat):Prop where
 grown:∀k A B,St k A->A.grownBy B none->St k B
 small:∀k pos x o k',bg k pos x=some (o,k')->o.pos=(pos:Int)/\0<=o.s/\o.s<=255
 calls:∀k pos W,pos<len->St k W->bC W b off len zs->Calls Tryz.prog 136 #[.slice (some ⟨b,off,none⟩) len cap,.int .i64 (pos:Int),gv] W λe W'=>W.grownBy W' row/\
  ((∃o k',bg k pos (zs.getD pos 0)=some (o,k')/\e=.returned (oV o)/\St k' W')\/(bg k pos (zs.getD pos 0)=none/\e=.panicked [{v:=rF 3,recovered:=false}]/\St k W'))
theorem below_grown{A B:World}(h:Below A.heap.size A B)(row:Option Nat):A.grownBy B row:=⟨h.os,h.tape,h.output,h.size,λk hk _=>h.block k hk⟩
structure rG(b off len cap:Nat)(zs:List Int)(gv sv:Value)(St:Nat->World->Prop)(Bw Bg k:Nat)(W:World):Prop where
 words:bC W b off len zs
 st:St k W
 box:aj W Bw #[sv] 29
 gone:aj W Bg #[gv] 193
theorem rG.next{b off len cap:Nat}{zs:List Int}{gv sv:Value}{St:Nat->World->Prop}{Bw Bg k k':Nat}{W W':World}{row:Option Nat}(h:rG b off len cap zs gv sv St Bw Bg k W)(hg:W.grownBy W' row)(hrow:∀r,row=some r->r≠Bw/\r≠Bg/\r≠b)(hst:St k' W'):
  rG b off len cap zs gv sv St Bw Bg k' W':=by
 refine⟨?_,hst,?_,?_⟩
 ·rcases Nat.eq_zero_or_pos len with h0|h0
  ·subst h0;exact bC.none _ _ _ _
  ·exact h.words.block (hg.block b (h.words.lt h0) (λe=>(hrow b e.symm).2.2 rfl))
 ·exact aj.of ((hg.block Bw h.box.lt (λe=>(hrow Bw e.symm).1 rfl)).trans h.box.raw)
 ·exact aj.of ((hg.block Bg h.gone.lt (λe=>(hrow Bg e.symm).2.1 rfl)).trans h.gone.raw)
theorem rG.kept{b off len cap:Nat}{zs:List Int}{gv sv:Value}{St:Nat->World->Prop}{Bw Bg k n₀ L:Nat}{A W W':World}(h:rG b off len cap zs gv sv St Bw Bg k W)(hk:Oh n₀ L A W W')(hBw:Bw<n₀/\Bw≠L)(hBg:Bg<n₀/\Bg≠L)(hb:0<len->b<n₀/\b≠L)(hst:St k W'):
  rG b off len cap zs gv sv St Bw Bg k W':=by
 refine⟨?_,hst,?_,?_⟩
 ·rcases Nat.eq_zero_or_pos len with h0|h0
  ·subst h0;exact bC.none _ _ _ _
  ·exact h.words.block (hk.2 b (h.words.lt h0) (.inl (hb h0)))
 ·exact aj.of ((hk.2 Bw h.box.lt (.inl hBw)).trans h.box.raw)
 ·exact aj.of ((hk.2 Bg h.gone.lt (.inl hBg)).trans h.gone.raw)
theorem mQ{A B:World}{row:Option Nat}(h:A.grownBy B row)(o:Obj):A.grownBy (B.alloc o) row:=
 ⟨h.os,h.tape,h.output,by have:=h.size;simp;omega,λk hk hne=>(Below.heap_alloc B o k (Nat.lt_of_lt_of_le hk h.size)).trans (h.block k hk hne)⟩
set_option maxRecDepth 100000 in
set_option maxHeartbeats 4000000 in
theorem GV(n:Nat)(hn:1<=n)(b off len cap:Nat)(ad:Option Addr)(zs:List Int)(gv:Value)(St:Nat->World->Prop)(bg:Nat->Nat->Int->Option (Ob×Nat))(row:Option Nat)(hok:CS b off len cap zs gv St bg row)
  (had:0<len->ad=some ⟨b,off,none⟩) (hlc:len<=cap) (hcap:cap<9223372036854775808) (hz:∀i,0<=zs.getD i 0/\zs.getD i 0<18446744073709551616) (hS:∀S:Nat,S<=255->len+1+S<9223372036854775808)
  (w0:World) (L Bw Bg:Nat) (hBw:Bw<w0.heap.size/\Bw≠L) (hBg:Bg<w0.heap.size/\Bg≠L) (hb:0<len->b<w0.heap.size/\b≠L) (hrow:∀r,row=some r->r≠Bw/\r≠Bg/\r≠b)
  (Zu:∀k A W1 W',w0.heap.size<=W1.heap.size->St k W1->Oh w0.heap.size L A W1 W'->St k W') (h0:rG b off len cap zs gv (.slice ad len cap) St Bw Bg 0 w0):
  FC Fence.wide n Tryz.prog 135 #[.pointer (some ⟨Bw,0,none⟩),.pointer (some ⟨Bg,0,none⟩)] (λo:Ob=> #[oV o]) L
   (λxs W=>∃k,aV bg zs len (len+1) 0 0 []=.ok xs k/\St k W) (λchain W=>∃e k,aV bg zs len (len+1) 0 0 []=.err e k/\chain=[{v:=rF e,recovered:=false}]/\St k W) row len w0:=by
 intro l J W hW hJ hY hJ0
 have hfn:=Tryz.func135
 refine callsIn_of_wp Tryz.func135 rfl trivial ?_ rfl
 simp only[Tryz.ntmps135,List.size_toArray,List.length_cons,List.length_nil,Nat.reduceAdd,Nat.reduceSub,Array.replicate_succ,Array.replicate_zero,List.push_toArray,List.append_toArray,List.nil_append,List.cons_append]
 have hE0:rG b off len cap zs gv (.slice ad len cap) St Bw Bg 0 W:=by
  refine⟨?_,hok.grown _ _ _ h0.st (below_grown hW none),h0.box.tr hW,h0.gone.tr hW⟩
  rcases Nat.eq_zero_or_pos len with h|h
  ·subst h;exact bC.none _ _ _ _
  ·exact h0.words.block (hW.block b (hb h).1)
 gi_wp2
 gi_loopw [4] (λi wr=>∃(k pos f:Nat)(acc:List Ob),i=.int .i64 pos/\pos<=len/\acc.length<=pos/\len-pos<f/\Hid (aV bg zs len (len+1) 0 0 []=aV bg zs len f k pos acc)/\J acc wr/\W.heap.size<=wr.heap.size/\rG b off len cap zs gv (.slice ad len cap) St Bw Bg k wr) (λi _=>len-(intOf i).toNat)
 case atStart=>exact⟨0,0,len+1,[],rfl,by omega,Nat.le_refl _,by omega,rfl,hJ0,Nat.le_refl _,hE0⟩
 case round=>
  obtain⟨k,pos,f,acc,rfl,hpl,hal,hf,hres,hJw,hsz,hE⟩:=hrel
  obtain⟨lw,cw,fw⟩:=hE.box.get
  have cw0:=cw 0
  obtain⟨lg,cg,fg⟩:=hE.gone.get
  have cg0:=cg 0
  clear hE0
  by_cases hlt:pos<len
  ·obtain rfl:=had (by omega)
   obtain⟨f,rfl⟩:∃f',f=f'+1:=⟨f-1,by omega⟩
   have hres2:=Lib.hid (fC (bg:=bg) (zs:=zs) (f:=f) (k:=k) (acc:=acc) hlt)
   gi_wp2_with fail
   refine⟨trivial,(callsIn_wide.2 (hok.calls k pos wr hlt hE.st hE.words)).mono ?_⟩
   rintro e w2 ⟨hg2,⟨o,k2,hbg,rfl,hst2⟩|⟨hbg,rfl,hst2⟩⟩
   ·obtain⟨hop,ho0,aci⟩:=hok.small _ _ _ _ _ hbg
    obtain⟨p0,s,p,g,t⟩:=o
    dsimp only at hop ho0 aci
    subst hop
    obtain⟨S,rfl⟩:=Int.eq_ofNat_of_zero_le ho0
    have hE2:=hE.next hg2 hrow hst2
    have WZ:=hE2.next (World.grownBy_alloc w2 (.cells #[.int .i64 pos,.int .i64 S,.int .i64 p,.bool g,.int .u64 t] 58) none) (λr e=>by cases e) (hok.grown _ _ _ hE2.st (World.grownBy_alloc w2 _ none))
    have afI:=mQ hg2 (.cells #[.int .i64 pos,.int .i64 S,.int .i64 p,.bool g,.int .u64 t] 58)
    have hBo:aj (w2.alloc (.cells #[.int .i64 pos,.int .i64 S,.int .i64 p,.bool g,.int .u64 t] 58)) w2.heap.size #[.int .i64 pos,.int .i64 S,.int .i64 p,.bool g,.int .u64 t] 58:=aj.new _ _ _
    clear lw cw fw cw0 lg cg fg cg0 hE
    obtain⟨lw,cw,fw⟩:=WZ.box.get
    have cw0:=cw 0
    unfold oV
    gi_wp2_with fail
    refine⟨trivial,(callsIn_wide.2 (Tq b off len cap pos S p t g zs _ hlt hlc hcap (by omega) (λi hi=>WZ.words.at i hi) hz)).mono ?_⟩
    rintro e w3 ⟨hp3,k3⟩
    have hg3:wr.grownBy w3 row:=afI.trans (below_grown k3 row)
    have KW:=WZ.next (below_grown k3 none) (λr e=>by cases e) (hok.grown _ _ _ WZ.st (below_grown k3 none))
    have acj:=hBo.tr k3
    rcases hp3 with⟨hp3,rfl⟩|⟨hp3,hso,rfl⟩|⟨hp3,hso,rfl⟩
    ·gi_wp2_with fail
     exact⟨rfl,.inr ⟨_,acc,rfl,⟨2,k2,by rw[hres.out,hres2.out,hbg];simp[hp3],rfl,KW.st⟩,hJ _ _ _ hJw hg3⟩⟩
    ·clear lw cw fw cw0
     have Zv:=Lib.hid ((mP _ _ _).2 hso)
     have eF:Hid (aV bg zs len (f+1) k pos acc=aV bg zs len f k2 (pos+1+S) (acc++[⟨pos,S,p,g,t⟩])):=by
      show _=_
      rw[hres2.out,hbg]
      have:=Zv.out
      simp only[Int.toNat_natCast]
      rw[if_neg (by omega),if_pos this]
     clear hso
     obtain⟨lo,co,fo⟩:=acj.get
     obtain⟨fn,tmps,assign,body,hy,hR⟩:=hY acc ⟨pos,S,p,g,t⟩ wr w3 hJw (by omega) hsz hg3
     unfold oV at hy
     gi_wp2_with fail
     refine hR.mono ?_
     rintro e w4 ⟨rfl,hJ4,hk4⟩
     have afJ:aj w4 w2.heap.size #[.int .i64 pos,.int .i64 S,.int .i64 p,.bool g,.int .u64 t] 58:=aj.of ((hk4.2 _ lo (.inr (by exact hg2.size))).trans acj.raw)
     have hE4:=KW.kept hk4 hBw hBg hb (Zu _ _ _ _ (Nat.le_trans hW.size (Nat.le_trans hsz hg3.size)) KW.st hk4)
     have Lm:W.heap.size<=w4.heap.size:=Nat.le_trans hsz (Nat.le_trans hg3.size hk4.1)
     clear lo co fo
     obtain⟨lo,co,fo⟩:=afJ.get
     have co1:=co 1
     gi_wp2_with fail
     exact⟨⟨k2,pos+1+S,f,_,by go_num,by omega,by simp;omega,by omega,hres.out.trans eF.out,hJ4,Lm,hE4⟩,by simp[intOf];omega⟩
    ·have Zv:=Lib.hid (λq=>hso ((mP _ _ _).1 q))
     clear hso
     gi_wp2_with fail
     exact⟨rfl,.inr ⟨_,acc,rfl,⟨3,k2,by rw[hres.out,hres2.out,hbg];have:=Zv.out;simp only[Int.toNat_natCast];rw[if_neg (by omega),if_neg this],rfl,KW.st⟩,hJ _ _ _ hJw hg3⟩⟩
   ·gi_wp2_with fail
    exact⟨rfl,.inr ⟨_,acc,rfl,⟨3,k,by rw[hres.out,hres2.out,hbg],rfl,hst2⟩,hJ _ _ _ hJw hg2⟩⟩
  ·obtain⟨f,rfl⟩:∃f',f=f'+1:=⟨f-1,by omega⟩
   have hres2:=Lib.hid (gQ (bg:=bg) (zs:=zs) (f:=f) (k:=k) (acc:=acc) hlt)
   obtain rfl:pos=len:=by omega
   gi_wp2_with fail
   go_end0
   exact .inl ⟨⟨_,rfl⟩,acc,⟨k,by rw[hres.out,hres2.out],hE.st⟩,hJw⟩
end Go.Proofs.YtpgjploaliefdaaGreat.ob
