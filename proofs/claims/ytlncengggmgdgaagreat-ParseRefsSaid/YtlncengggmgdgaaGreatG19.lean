/- Contracts of layer 3's functions (crc). No conditions. -/
import Derived.Test.YtlncengggmgdgaaGreatG18
import Derived.Test.YtlncengggmgdgaaGreatBase
import Derived.Deep.RegionHeld3
import Derived.Defers
import Derived.Laws.Pointers
import Derived.Laws.LoneSync
import Derived.RegionTactic
import Derived.RegionCalls
import Derived.ChangeAlike
set_option linter.unusedVariables false
set_option linter.unusedSimpArgs false
set_option maxRecDepth 100000
namespace Go.Proofs.YtlncengggmgdgaaGreat.cw
open Go.RowKit cm
variable {HC : Code}
attribute [local irreducible] par.ah
theorem JZ{c:Nat}(h:c%2=1):gX c=(c/2)^^^3988292384:=by unfold gX poly;rw[if_pos h]
theorem Fe{c:Nat}(h:¬c%2=1):gX c=c/2:=by unfold gX;rw[if_neg h]
theorem NW(c:Nat)(w:World)(h:c<4294967296):
  Calls (par.ah HC) 200 #[.int .u32 (c:Int)] w λe w'=>e=.returned (.int .u32 ((gX c:Nat):Int))/\w=w':=by
 by_cases h1:c%2=1
 ·have H:=Lib.hid (JZ h1)
  have hx:=u32_xor_nat (c/2) 3988292384 (by omega) (by omega)
  rw[show((c/2:Nat):Int)=(c:Int)/2 from by omega,show((3988292384:Nat):Int)=3988292384 from rfl]at hx
  have h2:((c:Int)%2==1)=true:=by simp;omega
  clear h1
  go_enter (par.Qi (H:=HC)),Tryz.ntmps200
  go_wp2
  go_ret
  exact SG (by rw[H.out]) rfl
 ·have H:=Lib.hid (Fe h1)
  have h2:((c:Int)%2==1)=false:=by simp;omega
  clear h1
  go_enter (par.Qi (H:=HC)),Tryz.ntmps200
  go_wp2
  go_ret
  exact SG (by rw[H.out];omega) rfl
theorem Xb(c:Nat)(w:World)(h:c<4294967296):
  Calls (par.ah HC) 195 #[.int .u32 (c:Int)] w λe w'=>e=.returned (.int .u32 ((ng c:Nat):Int))/\w=w':=by
 go_enter (par.aar (H:=HC)),Tryz.ntmps195
 go_wp2_with fail
 go_loop [0,3] (λv i=>∃k:Nat,k<=8/\i=.int .i64 k/\v=.int .u32 ((iter gX k c:Nat):Int)) (λ_ i=>8-(intOf i).toNat)
 case atStart=>exact⟨0,by omega,rfl,rfl⟩
 case round=>
  obtain⟨k,hk,rfl,rfl⟩:=hrel
  by_cases hlt:k<8
  ·go_wp2_with fail
   refine(NW _ _ (GU _ h)).mono ?_;rintro e w' ⟨rfl,rfl⟩
   go_wp2_with fail
   exact⟨⟨k+1,by omega,by go_num,by rw[CU]⟩,by simp[intOf];omega⟩
  ·obtain rfl:k=8:=by omega
   go_wp2_with fail
   go_ret
   exact⟨rfl,rfl⟩
def Xc(n:Nat)(cs:Array Value)(w:World)(e:Ending)(w':World):Prop:=
 e=.returned (.tuple #[])/\Only n w w'/\∃cs':Array Value,aW w' n cs' 264/\cs'.size=259/\(∀j,j<3->cs'[j]? =cs[j]?)/\∀i,i<256->cs'[3+i]? =some (.int .u32 ((ng i:Nat):Int))
theorem aaD(n:Nat)(cs:Array Value)(w:World)(hB:aW w n cs 264)(hsz:cs.size=259):
  Calls (par.ah HC) 192 #[.pointer (some ⟨n,0,none⟩)] w (Xc n cs w):=by
 go_enter (par.aap (H:=HC)),Tryz.ntmps192
 go_wp2_with fail
 go_loopw [3] (λi wr=>∃k:Nat,k<=256/\i=.int .i64 k/\Only n w wr/\∃cs':Array Value,aW wr n cs' 264/\cs'.size=259/\(∀j,j<3->cs'[j]? =cs[j]?)/\∀i,i<k->cs'[3+i]? =some (.int .u32 ((ng i:Nat):Int))) (λi _=>256-(intOf i).toNat)
 case atStart=>exact⟨0,by omega,rfl,Only.refl _ _,cs,hB,hsz,λ_ _=>rfl,λ_ h=>by omega⟩
 case round=>
  obtain⟨k,hk,rfl,ho,cs',hB',hsz',hj,hi⟩:=hrel
  by_cases hlt:k<256
  ·obtain⟨l1,c1,f1⟩:=hB'.get
   obtain⟨v0,hcell⟩:∃v,wr.cell? ⟨n,3+k,none⟩=some v:=Option.isSome_iff_exists.1 (by rw[c1];simp;omega)
   clear c1
   have HJ:=Lib.hid hj
   have HI:=Lib.hid hi
   have HS:=Lib.hid hsz
   have HS':=Lib.hid hsz'
   clear hj hi hsz hsz'
   have hk3:k<4294967296:=by omega
   go_wp2_with fail
   have hki:(k:Int)<256:=by omega
   have al0:(0:Int)<=(k:Int):=by omega
   have hw:=adU k (by omega)
   go_region_held3 (λ_=>True) (go_keep) (first|(go_at_call 195;refine(Xb k _ hk3).mono ?_;rintro e ww ⟨rfl,rfl⟩))
   clear hw
   go_wp2_with fail
   refine⟨⟨k+1,by omega,by go_num,(ho.set _ _).drew,cs'.setIfInBounds (3+k) (.int .u32 ((ng k:Nat):Int)),(hB'.set _ _).drew,by simpa using HS'.out,λj hj=> ?_,λi hi=> ?_⟩,by simp[intOf];omega⟩
   ·rw[nR (by omega)];exact HJ.out j hj
   ·by_cases h:i=k
    ·subst h;exact CS (by rw[HS'.out];omega)
    ·rw[nR (by omega)];exact HI.out i (by omega)
  ·obtain rfl:k=256:=by omega
   go_wp2_with fail
   go_end0
   exact⟨rfl,ho,cs',hB',hsz',hj,hi⟩
theorem agu(w:World):Calls (par.ah HC) 204 #[.bool true] w λe w'=>e=.returned (.int .u32 1)/\w=w':=by
 go_enter (par.aaw (H:=HC)),Tryz.ntmps204
 go_wp2
 go_ret
 exact⟨rfl,rfl⟩
theorem store_deferred(a:Addr)(x:Value)(u:FrameMode)(w:World)(hc:w.cell? a=some x)(hz:w.frozen? a=false):
  CallsD (par.ah HC) 199 #[.pointer (some a),.bool true] u w λe u' w'=>u'=u/\(e=.returned (.tuple #[])/\w'=w.drew.setCell a (.int .u32 1)):=by
 have hc':w.drew.cell? a=some x:=by go_simp
 have hz':w.drew.frozen? a=false:=by go_simp
 have hst:=run_call_store (P:=(par.ah HC)) (par.aav (H:=HC)) (by kernel_rfl) (by kernel_rfl) (by kernel_rfl) (by kernel_rfl) (k:=.u32) (y:=1) hc' hz'
 go_enter_d (par.aau (H:=HC)),Tryz.ntmps199
 go_wp2
 go_region_held3 (λ_=>True) (go_keep) (first|(go_at_call 204;refine(agu _).mono ?_;rintro e ww ⟨rfl,rfl⟩))
 all_goals (go_end0;exact⟨rfl,rfl⟩)
theorem unlock_deferred(n o:Nat)(u:FrameMode)(w:World)(hc:w.cell? ⟨n,o,none⟩=some (.int .i32 1))(hz:w.frozen? ⟨n,o,none⟩=false):
  CallsD (par.ah HC) 198 #[.pointer (some ⟨n,o,none⟩)] u w λe u' w'=>u'=u/\(e=.returned (.tuple #[])/\w'=(w.setCell ⟨n,o,none⟩ (.int .i32 0)).alloc par.dG):=by
 go_enter_d (par.aat (H:=HC)),Tryz.ntmps198
 go_wp2_with (go_at_call 202;refine(par.SH n o _ hc hz).mono ?_;rintro e w' ⟨rfl,rfl⟩)
 go_end0
 exact⟨rfl,rfl⟩
theorem lock_free(n o:Nat)(w:World)(hc:w.cell? ⟨n,o,none⟩=some (.int .i32 0))(hz:w.frozen? ⟨n,o,none⟩=false):
  Calls (par.ah HC) 197 #[.pointer (some ⟨n,o,none⟩)] w λe w'=>e=.returned (.tuple #[])/\w'=(w.setCell ⟨n,o,none⟩ (.int .i32 1)).alloc par.dG:=by
 go_enter (par.aas (H:=HC)),Tryz.ntmps197
 go_wp2_with (go_at_call 201;refine(par.aaC n o _ hc hz).mono ?_;rintro e w' ⟨rfl,rfl⟩)
 go_end0
 exact⟨rfl,rfl⟩
structure nK(cs:Array Value):Prop where
 size:cs.size=259
 done:cs[0]? =some (.int .u32 0)
 state:cs[1]? =some (.int .i32 0)
structure Laid(cs:Array Value):Prop where
 size:cs.size=259
 done:cs[0]? =some (.int .u32 1)
 makes:∀i,i<256->cs[3+i]? =some (.int .u32 ((ng i:Nat):Int))
def rP(n:Nat)(w:World)(e:Ending)(w':World):Prop:=
 e=.returned (.tuple #[])/\Only n w w'/\∃cs':Array Value,aW w' n cs' 264/\Laid cs'
theorem Xd(a:Addr)(w:World)(h:w.cell? a=some (.int .u32 0)):
  Calls (par.ah HC) 193 #[.pointer (some a)] w λe w'=>e=.returned (.bool false)/\w=w':=by
 have hl:=run_call_load (P:=(par.ah HC)) (par.Qh (H:=HC)) (by kernel_rfl) (by kernel_rfl) (by kernel_rfl) .u32 (by kernel_rfl) h
 go_enter (par.Qg (H:=HC)),Tryz.ntmps193
 go_wp2
 go_ret
 exact⟨rfl,rfl⟩
theorem adX(a:Addr)(w:World)(h:w.cell? a=some (.int .u32 1)):
  Calls (par.ah HC) 193 #[.pointer (some a)] w λe w'=>e=.returned (.bool true)/\w=w':=by
 have hl:=run_call_load (P:=(par.ah HC)) (par.Qh (H:=HC)) (by kernel_rfl) (by kernel_rfl) (by kernel_rfl) .u32 (by kernel_rfl) h
 go_enter (par.Qg (H:=HC)),Tryz.ntmps193
 go_wp2
 go_ret
 exact⟨rfl,rfl⟩
theorem slow_any(n:Nat)(cs:Array Value)(w:World)(hB:aW w n cs 264)(hF:nK cs):
  Calls (par.ah HC) 194 #[.pointer (some ⟨n,0,none⟩),.func (.func 192) #[.pointer (some ⟨n,0,none⟩)] #[]] w (rP n w):=by
 have hB1:aW ((w.setCell ⟨n,1,none⟩ (.int .i32 1)).alloc par.dG) n (cs.setIfInBounds 1 (.int .i32 1)) 264:=(hB.set 1 _).alloc _
 have g1:w.cell? ⟨n,1,none⟩=some (.int .i32 0):=(hB.get.2.1 1).trans hF.state
 have z1:w.frozen? ⟨n,1,none⟩=false:=hB.get.2.2 1
 have g0:((w.setCell ⟨n,1,none⟩ (.int .i32 1)).alloc par.dG).cell? ⟨n,0,none⟩=some (.int .u32 0):=by rw[hB1.get.2.1 0,nR (by omega)];exact hF.done
 have hnot:∀(x:Bool)(w:World),(Op.unary .not (.bool x)).run (par.ah HC) w=.ok (.bool (!x)) w:=λ_ _=>rfl
 go_enter_defers (par.aaq (H:=HC)),Tryz.ntmps194
 go_wp2_with (go_at_call 197;refine(lock_free n 1 _ g1 z1).mono ?_;rintro e w' ⟨rfl,rfl⟩)
 refine(Xd ⟨n,0,none⟩ _ g0).mono ?_;rintro e w' ⟨rfl,rfl⟩
 go_wp2_with fail
 refine(aaD n _ _ hB1 (by simpa using hF.size)).mono ?_;rintro e w2 ⟨rfl,ho,cs2,hB2,hsz,hj,hi⟩
 have HJ:=Lib.hid hj
 have HI:=Lib.hid hi
 clear hj hi
 go_wp2_with fail
 have hB3:aW (w2.drew.setCell ⟨n,0,none⟩ (.int .u32 1)) n (cs2.setIfInBounds 0 (.int .u32 1)) 264:=hB2.drew.set 0 _
 refine leaves_cons (f:=199) (args:= #[.pointer (some ⟨n,0,none⟩),.bool true]) (by simp) (by simp[go_sem]) ?_
 refine(store_deferred ⟨n,0,none⟩ (.int .u32 0) .returning _ ?_ (hB2.get.2.2 0)).mono ?_
 ·rw[hB2.get.2.1 0,HJ.out 0 (by omega),nR (by omega)];exact hF.done
 rintro e u' w'' ⟨rfl,rfl,rfl⟩
 refine leaves_cons (f:=198) (args:= #[.pointer (some ⟨n,1,none⟩)]) (by simp[settle]) (by simp[go_sem]) ?_
 refine(unlock_deferred n 1 _ _ ?_ (hB3.get.2.2 1)).mono ?_
 ·rw[hB3.get.2.1 1,nR (by omega),HJ.out 1 (by omega)];exact CS (by rw[hF.size];omega)
 rintro e u' w'' ⟨rfl,rfl,rfl⟩
 show∃v,(results Tryz.f194 _).run (par.ah HC) _=.ok v _/\rP n w (.returned v) _
 refine⟨.tuple #[],by simp[results,Tryz.results194,go_sem],rfl,((((((Only.refl n w).set 1 _).alloc _).trans ho).drew.set 0 _).set 1 _).alloc _,_,(hB3.set 1 _).alloc _,by simpa using hsz,?_,λi hi=> ?_⟩
 ·rw[nR (by omega)];exact CS (by rw[hsz];omega)
 ·rw[nR (by omega),nR (by omega)];exact HI.out i hi
theorem do_first(n:Nat)(cs:Array Value)(w:World)(hB:aW w n cs 264)(hF:nK cs):
  Calls (par.ah HC) 191 #[.pointer (some ⟨n,0,none⟩),.func (.func 192) #[.pointer (some ⟨n,0,none⟩)] #[]] w (rP n w):=by
 have g0:w.cell? ⟨n,0,none⟩=some (.int .u32 0):=(hB.get.2.1 0).trans hF.done
 have hnot:∀(x:Bool)(w:World),(Op.unary .not (.bool x)).run (par.ah HC) w=.ok (.bool (!x)) w:=λ_ _=>rfl
 go_enter (par.Qe (H:=HC)),Tryz.ntmps191
 go_wp2_with fail
 refine(Xd ⟨n,0,none⟩ _ g0).mono ?_;rintro e w' ⟨rfl,rfl⟩
 go_wp2_with fail
 refine(slow_any n cs _ hB hF).mono ?_;rintro e w2 ⟨rfl,ho,hp⟩
 have HP:=Lib.hid hp
 clear hp
 go_wp2_with fail
 go_end0
 exact⟨rfl,ho,HP.out⟩
theorem do_done(n:Nat)(cs:Array Value)(w:World)(f:Value)(hB:aW w n cs 264)(hF:Laid cs):
  Calls (par.ah HC) 191 #[.pointer (some ⟨n,0,none⟩),f] w (rP n w):=by
 have g0:w.cell? ⟨n,0,none⟩=some (.int .u32 1):=(hB.get.2.1 0).trans hF.done
 have hnot:∀(x:Bool)(w:World),(Op.unary .not (.bool x)).run (par.ah HC) w=.ok (.bool (!x)) w:=λ_ _=>rfl
 go_enter (par.Qe (H:=HC)),Tryz.ntmps191
 go_wp2_with fail
 refine(adX ⟨n,0,none⟩ _ g0).mono ?_;rintro e w' ⟨rfl,rfl⟩
 go_wp2_with fail
 go_end0
 exact⟨rfl,Only.refl _ _,cs,hB,hF⟩
theorem adY(n:Nat)(cs:Array Value)(w:World)(hB:aW w n cs 264)(hF:nK cs\/Laid cs):
  Calls (par.ah HC) 191 #[.pointer (some ⟨n,0,none⟩),.func (.func 192) #[.pointer (some ⟨n,0,none⟩)] #[]] w (rP n w):=by
 rcases hF with h|h
 ·exact do_first n cs w hB h
 ·exact do_done n cs w _ hB h
def adZ(n:Nat)(v:Int)(w:World)(e:Ending)(w':World):Prop:=
 e=.returned (.int .u32 v)/\Only n w w'/\∃cs':Array Value,aW w' n cs' 264/\Laid cs'
theorem ad4(n:Nat)(cs:Array Value)(c b:Nat)(w:World)(hB:aW w n cs 264)(hF:nK cs\/Laid cs)(hc:c<4294967296)(hb:b<256):
  Calls (par.ah HC) 190 #[.pointer (some ⟨n,0,none⟩),.int .u32 (c:Int),.int .u8 (b:Int)] w (adZ n ((YK c b:Nat):Int) w):=by
 have hx:=u8_xor_nat (c%256) b (by omega) hb
 rw[show((c%256:Nat):Int)=(c:Int)%256 from by omega]at hx
 have hxl:(c%256)^^^b<256:=JY (by omega) hb
 have hy:=u32_xor_nat (ng ((c%256)^^^b)) (c/256) (JW (by omega)) (by omega)
 rw[show((c/256:Nat):Int)=(c:Int)/256 from by omega,Xa]at hy
 generalize hi:(c%256)^^^b=i at hx hy hxl
 clear hi
 have hmf:∀(fn:Fn)(first cap:Array Value)(w:World),(Instr.makeFunc fn first cap).run (par.ah HC) w=.ok (.func fn first cap) w:=λ_ _ _ _=>rfl
 go_enter (par.aao (H:=HC)),Tryz.ntmps190
 go_wp2_with fail
 refine(adY n cs _ hB hF).mono ?_;rintro e w2 ⟨rfl,ho,cs2,hB2,hL⟩
 have hcell:w2.cell? ⟨n,3+i,none⟩=some (.int .u32 ((ng i:Nat):Int)):=(hB2.get.2.1 _).trans (hL.makes i hxl)
 have hLt:=hB2.lt
 go_wp2_with fail
 go_ret
 exact⟨rfl,ho,cs2,hB2,hL⟩
end Go.Proofs.YtlncengggmgdgaaGreat.cw
namespace Go.Proofs.YtlncengggmgdgaaGreat.cw
open Go.RowKit cm
variable {HC : Code}
attribute [local irreducible] par.ah
def GV:Array Value:= #[.int .u32 0,.int .i32 0,.int .u32 0]++Array.replicate 256 (.int .u32 0)
theorem NY(w:World):Sem.run (par.ah HC) (zeroValue 264) w=.ok (.agg GV) w:=by kernel_rfl
theorem GX:nK GV:=⟨by kernel_rfl,by kernel_rfl,by kernel_rfl⟩
attribute [irreducible] GV
def au(s:ByteArray):List Nat:=s.data.toList.map UInt8.toNat
theorem aC(s:ByteArray):(au s).length=s.size:=by simp[au]
theorem bP(s:ByteArray):∀b∈au s,b<256:=by
 intro b hb
 obtain⟨x,_,rfl⟩:=List.mem_map.1 hb
 exact x.toNat_lt
theorem zH(s:ByteArray)(k:Nat)(h:k<s.size):(au s).take (k+1)=(au s).take k++[s[k].toNat]:=by
 have hl:k<(au s).length:=by rw[aC];exact h
 rw[List.take_succ_eq_append_getElem hl]
 congr 2
 simp[au];rfl
def J3(v:Int)(w:World)(e:Ending)(w':World):Prop:=e=.returned (.int .u32 v)/\Below w.heap.size w w'
theorem Xe(c:Nat)(s:ByteArray)(w:World)(h:c<4294967296)(hs:s.size<=maxLen):
  Calls (par.ah HC) 185 #[.int .u32 (c:Int),.string s] w (J3 ((Fb c (au s):Nat):Int) w):=by
 unfold maxLen at hs
 have hz:=NY (HC:=HC)
 have hx:=u32_xor_nat c 4294967295 h (by omega)
 rw[show((4294967295:Nat):Int)=4294967295 from rfl]at hx
 have hct:c^^^4294967295=c^^^top32:=by unfold top32;rfl
 rw[hct]at hx
 have hc0:c^^^top32<4294967296:=ny h (by unfold top32;omega)
 have HM:Hid (Fb c (au s)=jV (c^^^top32) (au s)^^^top32):=rfl
 generalize hg:c^^^top32=c0 at hx hc0 HM
 clear hg hct
 have hend:=u32_xor_nat (jV c0 (au s)) 4294967295 (rO _ hc0 (bP s)) (by omega)
 rw[show((4294967295:Nat):Int)=4294967295 from rfl]at hend
 have HE:=Lib.hid hend
 clear hend
 go_enter (par.aal (H:=HC)),Tryz.ntmps185
 go_wp2_with fail
 go_loopw [0,12] (λv i wr=>∃k:Nat,k<=s.size/\i=.int .i64 k/\v=.int .u32 ((jV c0 ((au s).take k):Nat):Int)/\Below w.heap.size w wr/\∃cs:Array Value,aW wr w.heap.size cs 264/\(nK cs\/Laid cs)) (λ_ i _=>s.size-(intOf i).toNat)
 case atStart=>exact⟨0,Nat.zero_le _,rfl,rfl,by exact bm,GV,aW.new _ _ _,.inl GX⟩
 case round=>
  obtain⟨k,hk,rfl,rfl,hb,cs,hB,hF⟩:=hrel
  have hfl:jV c0 ((au s).take k)<4294967296:=rO _ hc0 (λb hb=>bP s b (List.mem_of_mem_take hb))
  by_cases hlt:k<s.size
  ·have HS:Hid (jV c0 ((au s).take (k+1))=YK (jV c0 ((au s).take k)) s[k].toNat):=by rw[zH s k hlt];exact CW _ _ _
   generalize hq:jV c0 ((au s).take k)=q at*
   clear hq
   go_wp2_with fail
   refine(ad4 w.heap.size cs q _ _ hB hF hfl s[k].toNat_lt).mono ?_;rintro e w2 ⟨rfl,ho,hp⟩
   have HP:=Lib.hid hp
   clear hp
   go_wp2_with fail
   obtain⟨cs2,hB2,hL⟩:=HP.out
   exact⟨⟨k+1,by omega,by go_num,by rw[HS.out],ho.below hb (Nat.le_refl _),cs2,hB2,.inr hL⟩,by simp[intOf];omega⟩
  ·obtain rfl:k=s.size:=by omega
   have ht:(au s).take s.size=au s:=List.take_of_length_le (by rw[aC];omega)
   rw[ht]
   have hE:=HE.out
   go_wp2_with fail
   go_ret
   refine⟨?_,hb⟩
   rw[HM.out];unfold top32;rfl
theorem sum_any(s:ByteArray)(w:World)(hs:s.size<=maxLen):
  Calls (par.ah HC) 164 #[.string s] w (J3 ((ni (au s):Nat):Int) w):=by
 go_enter (par.aaf (H:=HC)),Tryz.ntmps164
 go_wp2_with fail
 refine(Xe 0 s _ (by omega) hs).mono ?_;rintro e w2 ⟨rfl,hb⟩
 go_wp2_with fail
 go_ret
 exact⟨rfl,hb⟩
end Go.Proofs.YtlncengggmgdgaaGreat.cw
