/- Contracts of layer 3's functions (crc). No conditions. -/
import Derived.Test.YtpgjploaliefdaaGreatG01
import Derived.Test.YtpgjploaliefdaaGreatCm
import Derived.Deep.RegionHeld3
import Derived.Defers
import Derived.Laws.Pointers
import Derived.Laws.LoneSync
import Derived.RegionTactic
import Derived.RegionCalls
import Derived.ChangeAlike
namespace Go.Proofs.YtpgjploaliefdaaGreat.cw
open Go.RowKit cm
set_option linter.unusedVariables false
set_option linter.unusedSimpArgs false
theorem adw:((poly:Nat):Int)=3988292384:=by unfold poly;rfl
theorem J3{c:Nat}(h:c%2=1):fG c=(c/2)^^^3988292384:=by unfold fG poly;rw[if_pos h]
theorem Gm{c:Nat}(h:¬c%2=1):fG c=c/2:=by unfold fG;rw[if_neg h]
theorem Nj(c:Nat)(w:World)(h:c<4294967296):
  Calls Tryz.prog 143 #[.int .u32 (c:Int)] w λe w'=>e=.returned (.int .u32 ((fG c:Nat):Int))/\w=w':=by
 by_cases h1:c%2=1
 ·have H:=Lib.hid (J3 h1)
  have hx:=u32_xor_nat (c/2) 3988292384 (by omega) (by omega)
  rw[show((c/2:Nat):Int)=(c:Int)/2 from by omega,show((3988292384:Nat):Int)=3988292384 from rfl]at hx
  have h2:((c:Int)%2==1)=true:=by simp;omega
  clear h1
  go_enter Tryz.func143,Tryz.ntmps143
  go_wp2
  go_ret
  exact zi (by rw[H.out]) rfl
 ·have H:=Lib.hid (Gm h1)
  have h2:((c:Int)%2==1)=false:=by simp;omega
  clear h1
  go_enter Tryz.func143,Tryz.ntmps143
  go_wp2
  go_ret
  exact zi (by rw[H.out];omega) rfl
theorem Vk(c:Nat)(w:World)(h:c<4294967296):
  Calls Tryz.prog 134 #[.int .u32 (c:Int)] w λe w'=>e=.returned (.int .u32 ((gV c:Nat):Int))/\w=w':=by
 go_enter Tryz.func134,Tryz.ntmps134
 go_wp2_with fail
 go_loop [0,3] (λv i=>∃k:Nat,k<=8/\i=.int .i64 k/\v=.int .u32 ((iter fG k c:Nat):Int)) (λ_ i=>8-(intOf i).toNat)
 case atStart=>exact⟨0,by omega,rfl,rfl⟩
 case round=>
  obtain⟨k,hk,rfl,rfl⟩:=hrel
  by_cases hlt:k<8
  ·go_wp2_with fail
   refine(Nj _ _ (CQ _ h)).mono ?_;rintro e w' ⟨rfl,rfl⟩
   go_wp2_with fail
   exact⟨⟨k+1,by omega,by go_num,by rw[Dl]⟩,by simp[intOf];omega⟩
  ·obtain rfl:k=8:=by omega
   go_wp2_with fail
   go_ret
   exact⟨rfl,rfl⟩
def Vl(n:Nat)(cs:Array Value)(w:World)(e:Ending)(w':World):Prop:=
 e=.returned (.tuple #[])/\Only n w w'/\∃cs':Array Value,aj w' n cs' 186/\cs'.size=259/\(∀j,j<3->cs'[j]? =cs[j]?)/\∀i,i<256->cs'[3+i]? =some (.int .u32 ((gV i:Nat):Int))
set_option maxRecDepth 100000 in
theorem XZ(n:Nat)(cs:Array Value)(w:World)(hB:aj w n cs 186)(hsz:cs.size=259):
  Calls Tryz.prog 127 #[.pointer (some ⟨n,0,none⟩)] w (Vl n cs w):=by
 go_enter Tryz.func127,Tryz.ntmps127
 go_wp2_with fail
 go_loopw [3] (λi wr=>∃k:Nat,k<=256/\i=.int .i64 k/\Only n w wr/\∃cs':Array Value,aj wr n cs' 186/\cs'.size=259/\(∀j,j<3->cs'[j]? =cs[j]?)/\∀i,i<k->cs'[3+i]? =some (.int .u32 ((gV i:Nat):Int))) (λi _=>256-(intOf i).toNat)
 case atStart=>exact⟨0,by omega,rfl,Only.refl _ _,cs,hB,hsz,λ_ _=>rfl,λ_ h=>by omega⟩
 case round=>
  obtain⟨k,hk,rfl,ho,cs',hB',hsz',hj,hi⟩:=hrel
  by_cases hlt:k<256
  ·obtain⟨l1,c1,f1⟩:=hB'.get
   obtain⟨v0,hcell⟩:∃v,wr.cell? ⟨n,3+k,none⟩=some v:=Option.isSome_iff_exists.1 (by rw[c1];simp;omega)
   clear c1
   have HJ:=Lib.hid hj
   have HI:=Lib.hid hi
   have HS:=Lib.hid hsz
   have HS':=Lib.hid hsz'
   clear hj hi hsz hsz'
   have hk3:k<4294967296:=by omega
   go_wp2_with fail
   have hki:(k:Int)<256:=by omega
   have anA:(0:Int)<=(k:Int):=by omega
   have hw:=Zo k (by omega)
   go_region_held3 (λ_=>True) (go_keep) (first|(go_at_call 134;refine(Vk k _ hk3).mono ?_;rintro e ww ⟨rfl,rfl⟩))
   clear hw
   go_wp2_with fail
   refine⟨⟨k+1,by omega,by go_num,(ho.set _ _).drew,cs'.setIfInBounds (3+k) (.int .u32 ((gV k:Nat):Int)),(hB'.set _ _).drew,by simpa using HS'.out,λj hj=> ?_,λi hi=> ?_⟩,by simp[intOf];omega⟩
   ·rw[qM (by omega)];exact HJ.out j hj
   ·by_cases h:i=k
    ·subst h;exact Dj (by rw[HS'.out];omega)
    ·rw[qM (by omega)];exact HI.out i (by omega)
  ·obtain rfl:k=256:=by omega
   go_wp2_with fail
   go_end0
   exact⟨rfl,ho,cs',hB',hsz',hj,hi⟩
theorem disable(w:World):(callFunc 149 #[]).run Tryz.prog w=.ok (.value (.tuple #[])) w:=run_call_mark0 Tryz.func149 (by kernel_rfl) (by kernel_rfl) (by kernel_rfl) .disable (by kernel_rfl) w
theorem enable(w:World):(callFunc 151 #[]).run Tryz.prog w=.ok (.value (.tuple #[])) w:=run_call_mark0 Tryz.func151 (by kernel_rfl) (by kernel_rfl) (by kernel_rfl) .enable (by kernel_rfl) w
theorem acquire(a:Addr)(w:World):(callFunc 152 #[.pointer (some a)]).run Tryz.prog w=.ok (.value (.tuple #[])) w:=run_call_marked Tryz.func152 (by kernel_rfl) (by kernel_rfl) (by kernel_rfl) .acquire (by kernel_rfl) a w
theorem releaseMerge(a:Addr)(w:World):(callFunc 154 #[.pointer (some a)]).run Tryz.prog w=.ok (.value (.tuple #[])) w:=run_call_marked Tryz.func154 (by kernel_rfl) (by kernel_rfl) (by kernel_rfl) .releaseMerge (by kernel_rfl) a w
theorem store_deferred(a:Addr)(x:Value)(u:FrameMode)(w:World)(hc:w.cell? a=some x)(hz:w.frozen? a=false):
  CallsD Tryz.prog 142 #[.pointer (some a),.bool true] u w λe u' w'=>u'=u/\(e=.returned (.tuple #[])/\w'=w.drew.setCell a (.int .u32 1)):=by
 have hc':w.drew.cell? a=some x:=by go_simp
 have hz':w.drew.frozen? a=false:=by go_simp
 have hst:=run_call_store (P:=Tryz.prog) Tryz.func147 (by kernel_rfl) (by kernel_rfl) (by kernel_rfl) (by kernel_rfl) (k:=.u32) (y:=1) hc' hz'
 go_enter_d Tryz.func142,Tryz.ntmps142
 go_wp2
 go_region_calls
 all_goals (go_end0;exact⟨rfl,rfl⟩)
set_option maxRecDepth 100000 in
theorem unlock_deferred(a:Addr)(u:FrameMode)(w:World)(hc:w.cell? a=some (.int .i32 1))(hz:w.frozen? a=false):
  CallsD Tryz.prog 141 #[.pointer (some a)] u w λe u' w'=>u'=u/\(e=.returned (.tuple #[])/\w'=w.setCell a (.int .i32 0)):=by
 have hd:=disable
 have he:=enable
 have hr:=releaseMerge
 have hadd:=run_call_add (P:=Tryz.prog) Tryz.func155 (by kernel_rfl) (by kernel_rfl) (by kernel_rfl) .i32 (by kernel_rfl) (y:= -1) (s:=0) hc hz (by simp[go_sem];rfl)
 have hcv:=run_convert_to_unsafe (P:=Tryz.prog) (src:=218) (dst:=157) Tryz.underlying218 Tryz.underlying157 (by kernel_rfl) hc
 go_enter_d Tryz.func141,Tryz.ntmps141
 go_wp2
 go_end0
 go_wp2
 go_end0
 exact⟨rfl,rfl⟩
set_option maxRecDepth 100000 in
theorem lock_free(a:Addr)(w:World)(hc:w.cell? a=some (.int .i32 0))(hz:w.frozen? a=false):
  Calls Tryz.prog 140 #[.pointer (some a)] w λe w'=>e=.returned (.tuple #[])/\w'=w.setCell a (.int .i32 1):=by
 have hd:=disable
 have he:=enable
 have ha:=acquire
 have hcas:=run_call_cas_hit (P:=Tryz.prog) Tryz.func150 (by kernel_rfl) (by kernel_rfl) (by kernel_rfl) .i32 (by kernel_rfl) (y:=1) hc hz
 have hc':(w.setCell a (.int .i32 1)).cell? a=some (.int .i32 1):=World.cell?_setCell_same w a _ hc
 have hcv:=run_convert_to_unsafe (P:=Tryz.prog) (src:=218) (dst:=157) Tryz.underlying218 Tryz.underlying157 (by kernel_rfl) hc'
 go_enter Tryz.func140,Tryz.ntmps140
 go_wp2
 first|go_end0|(simp only[Exit.inBlock,Exit.then];refine bodyPost_ret (results_none rfl _ _ _) rfl ?_)|refine bodyPost_ret (results_none rfl _ _ _) rfl ?_
 go_wp2
 go_end0
 exact⟨rfl,rfl⟩
structure Gn(cs:Array Value):Prop where
 size:cs.size=259
 done:cs[0]? =some (.int .u32 0)
 state:cs[1]? =some (.int .i32 0)
structure Laid(cs:Array Value):Prop where
 size:cs.size=259
 done:cs[0]? =some (.int .u32 1)
 makes:∀i,i<256->cs[3+i]? =some (.int .u32 ((gV i:Nat):Int))
def wH(n:Nat)(w:World)(e:Ending)(w':World):Prop:=
 e=.returned (.tuple #[])/\Only n w w'/\∃cs':Array Value,aj w' n cs' 186/\Laid cs'
theorem Vm(a:Addr)(w:World)(h:w.cell? a=some (.int .u32 0)):
  Calls Tryz.prog 132 #[.pointer (some a)] w λe w'=>e=.returned (.bool false)/\w=w':=by
 have hl:=run_call_load (P:=Tryz.prog) Tryz.func139 (by kernel_rfl) (by kernel_rfl) (by kernel_rfl) .u32 (by kernel_rfl) h
 go_enter Tryz.func132,Tryz.ntmps132
 go_wp2
 go_ret
 exact⟨rfl,rfl⟩
theorem aaD(a:Addr)(w:World)(h:w.cell? a=some (.int .u32 1)):
  Calls Tryz.prog 132 #[.pointer (some a)] w λe w'=>e=.returned (.bool true)/\w=w':=by
 have hl:=run_call_load (P:=Tryz.prog) Tryz.func139 (by kernel_rfl) (by kernel_rfl) (by kernel_rfl) .u32 (by kernel_rfl) h
 go_enter Tryz.func132,Tryz.ntmps132
 go_wp2
 go_ret
 exact⟨rfl,rfl⟩
set_option maxRecDepth 100000 in
theorem slow_any(n:Nat)(cs:Array Value)(w:World)(hB:aj w n cs 186)(hF:Gn cs):
  Calls Tryz.prog 133 #[.pointer (some ⟨n,0,none⟩),.func (.func 127) #[.pointer (some ⟨n,0,none⟩)] #[]] w (wH n w):=by
 have hB1:aj (w.setCell ⟨n,1,none⟩ (.int .i32 1)) n (cs.setIfInBounds 1 (.int .i32 1)) 186:=hB.set 1 _
 have g1:w.cell? ⟨n,1,none⟩=some (.int .i32 0):=(hB.get.2.1 1).trans hF.state
 have z1:w.frozen? ⟨n,1,none⟩=false:=hB.get.2.2 1
 have g0:(w.setCell ⟨n,1,none⟩ (.int .i32 1)).cell? ⟨n,0,none⟩=some (.int .u32 0):=by rw[hB1.get.2.1 0,qM (by omega)];exact hF.done
 have hnot:∀(x:Bool)(w:World),(Op.unary .not (.bool x)).run Tryz.prog w=.ok (.bool (!x)) w:=λ_ _=>rfl
 go_enter_defers Tryz.func133,Tryz.ntmps133
 go_wp2_with (go_at_call 140;refine(lock_free ⟨n,1,none⟩ _ g1 z1).mono ?_;rintro e w' ⟨rfl,rfl⟩)
 refine(Vm ⟨n,0,none⟩ _ g0).mono ?_;rintro e w' ⟨rfl,rfl⟩
 go_wp2_with fail
 refine(XZ n _ _ hB1 (by simpa using hF.size)).mono ?_;rintro e w2 ⟨rfl,ho,cs2,hB2,hsz,hj,hi⟩
 have HJ:=Lib.hid hj
 have HI:=Lib.hid hi
 clear hj hi
 go_wp2_with fail
 have hB3:aj (w2.drew.setCell ⟨n,0,none⟩ (.int .u32 1)) n (cs2.setIfInBounds 0 (.int .u32 1)) 186:=hB2.drew.set 0 _
 refine leaves_cons (f:=142) (args:= #[.pointer (some ⟨n,0,none⟩),.bool true]) (by simp) (by simp[go_sem]) ?_
 refine(store_deferred ⟨n,0,none⟩ (.int .u32 0) .returning _ ?_ (hB2.get.2.2 0)).mono ?_
 ·rw[hB2.get.2.1 0,HJ.out 0 (by omega),qM (by omega)];exact hF.done
 rintro e u' w'' ⟨rfl,rfl,rfl⟩
 refine leaves_cons (f:=141) (args:= #[.pointer (some ⟨n,1,none⟩)]) (by simp[settle]) (by simp[go_sem]) ?_
 refine(unlock_deferred ⟨n,1,none⟩ _ _ ?_ (hB3.get.2.2 1)).mono ?_
 ·rw[hB3.get.2.1 1,qM (by omega),HJ.out 1 (by omega)];exact Dj (by rw[hF.size];omega)
 rintro e u' w'' ⟨rfl,rfl,rfl⟩
 show∃v,(results Tryz.f133 _).run Tryz.prog _=.ok v _/\wH n w (.returned v) _
 refine⟨.tuple #[],by simp[results,Tryz.results133,go_sem],rfl,((((Only.refl n w).set 1 _).trans ho).drew.set 0 _).set 1 _,_,hB3.set 1 _,by simpa using hsz,?_,λi hi=> ?_⟩
 ·rw[qM (by omega)];exact Dj (by rw[hsz];omega)
 ·rw[qM (by omega),qM (by omega)];exact HI.out i hi
set_option maxRecDepth 100000 in
theorem do_first(n:Nat)(cs:Array Value)(w:World)(hB:aj w n cs 186)(hF:Gn cs):
  Calls Tryz.prog 126 #[.pointer (some ⟨n,0,none⟩),.func (.func 127) #[.pointer (some ⟨n,0,none⟩)] #[]] w (wH n w):=by
 have g0:w.cell? ⟨n,0,none⟩=some (.int .u32 0):=(hB.get.2.1 0).trans hF.done
 have hnot:∀(x:Bool)(w:World),(Op.unary .not (.bool x)).run Tryz.prog w=.ok (.bool (!x)) w:=λ_ _=>rfl
 go_enter Tryz.func126,Tryz.ntmps126
 go_wp2_with fail
 refine(Vm ⟨n,0,none⟩ _ g0).mono ?_;rintro e w' ⟨rfl,rfl⟩
 go_wp2_with fail
 refine(slow_any n cs _ hB hF).mono ?_;rintro e w2 ⟨rfl,ho,hp⟩
 have HP:=Lib.hid hp
 clear hp
 go_wp2_with fail
 go_end0
 exact⟨rfl,ho,HP.out⟩
theorem do_done(n:Nat)(cs:Array Value)(w:World)(f:Value)(hB:aj w n cs 186)(hF:Laid cs):
  Calls Tryz.prog 126 #[.pointer (some ⟨n,0,none⟩),f] w (wH n w):=by
 have g0:w.cell? ⟨n,0,none⟩=some (.int .u32 1):=(hB.get.2.1 0).trans hF.done
 have hnot:∀(x:Bool)(w:World),(Op.unary .not (.bool x)).run Tryz.prog w=.ok (.bool (!x)) w:=λ_ _=>rfl
 go_enter Tryz.func126,Tryz.ntmps126
 go_wp2_with fail
 refine(aaD ⟨n,0,none⟩ _ g0).mono ?_;rintro e w' ⟨rfl,rfl⟩
 go_wp2_with fail
 go_end0
 exact⟨rfl,Only.refl _ _,cs,hB,hF⟩
theorem aaE(n:Nat)(cs:Array Value)(w:World)(hB:aj w n cs 186)(hF:Gn cs\/Laid cs):
  Calls Tryz.prog 126 #[.pointer (some ⟨n,0,none⟩),.func (.func 127) #[.pointer (some ⟨n,0,none⟩)] #[]] w (wH n w):=by
 rcases hF with h|h
 ·exact do_first n cs w hB h
 ·exact do_done n cs w _ hB h
def aaF(n:Nat)(v:Int)(w:World)(e:Ending)(w':World):Prop:=
 e=.returned (.int .u32 v)/\Only n w w'/\∃cs':Array Value,aj w' n cs' 186/\Laid cs'
theorem aaG(n:Nat)(cs:Array Value)(c b:Nat)(w:World)(hB:aj w n cs 186)(hF:Gn cs\/Laid cs)(hc:c<4294967296)(hb:b<256):
  Calls Tryz.prog 119 #[.pointer (some ⟨n,0,none⟩),.int .u32 (c:Int),.int .u8 (b:Int)] w (aaF n ((TA c b:Nat):Int) w):=by
 have hx:=u8_xor_nat (c%256) b (by omega) hb
 rw[show((c%256:Nat):Int)=(c:Int)%256 from by omega]at hx
 have hxl:(c%256)^^^b<256:=IY (by omega) hb
 have hy:=u32_xor_nat (gV ((c%256)^^^b)) (c/256) (IW (by omega)) (by omega)
 rw[show((c/256:Nat):Int)=(c:Int)/256 from by omega,TF]at hy
 generalize hi:(c%256)^^^b=i at hx hy hxl
 clear hi
 have hmf:∀(fn:Fn)(first cap:Array Value)(w:World),(Instr.makeFunc fn first cap).run Tryz.prog w=.ok (.func fn first cap) w:=λ_ _ _ _=>rfl
 go_enter Tryz.func119,Tryz.ntmps119
 go_wp2_with fail
 refine(aaE n cs _ hB hF).mono ?_;rintro e w2 ⟨rfl,ho,cs2,hB2,hL⟩
 have hcell:w2.cell? ⟨n,3+i,none⟩=some (.int .u32 ((gV i:Nat):Int)):=(hB2.get.2.1 _).trans (hL.makes i hxl)
 have hLt:=hB2.lt
 go_wp2_with fail
 go_ret
 exact⟨rfl,ho,cs2,hB2,hL⟩
end Go.Proofs.YtpgjploaliefdaaGreat.cw
namespace Go.Proofs.YtpgjploaliefdaaGreat.cw
open Go.RowKit cm
set_option linter.unusedVariables false
set_option linter.unusedSimpArgs false
def Ii:Array Value:= #[.int .u32 0,.int .i32 0,.int .u32 0]++Array.replicate 256 (.int .u32 0)
theorem Nk(w:World):Sem.run Tryz.prog (zeroValue 186) w=.ok (.agg Ii) w:=by kernel_rfl
theorem Ij:Gn Ii:=⟨by kernel_rfl,by kernel_rfl,by kernel_rfl⟩
attribute [irreducible] Ii
def aQ(s:ByteArray):List Nat:=s.data.toList.map UInt8.toNat
theorem nC(s:ByteArray):(aQ s).length=s.size:=by simp[aQ]
theorem nD(s:ByteArray):∀b∈aQ s,b<256:=by
 intro b hb
 obtain⟨x,_,rfl⟩:=List.mem_map.1 hb
 exact x.toNat_lt
theorem Cc(s:ByteArray)(k:Nat)(h:k<s.size):(aQ s).take (k+1)=(aQ s).take k++[s[k].toNat]:=by
 have hl:k<(aQ s).length:=by rw[nC];exact h
 rw[List.take_succ_eq_append_getElem hl]
 congr 2
 simp[aQ];rfl
def J4(v:Int)(w:World)(e:Ending)(w':World):Prop:=e=.returned (.int .u32 v)/\Below w.heap.size w w'
set_option maxRecDepth 100000 in
theorem Vo(c:Nat)(s:ByteArray)(w:World)(h:c<4294967296)(hs:s.size<=maxLen):
  Calls Tryz.prog 104 #[.int .u32 (c:Int),.string s] w (J4 ((pW c (aQ s):Nat):Int) w):=by
 unfold maxLen at hs
 have hz:=Nk
 have hx:=u32_xor_nat c 4294967295 h (by omega)
 rw[show((4294967295:Nat):Int)=4294967295 from rfl]at hx
 have hct:c^^^4294967295=c^^^top32:=by unfold top32;rfl
 rw[hct]at hx
 have hc0:c^^^top32<4294967296:=kL h (by unfold top32;omega)
 have HM:Hid (pW c (aQ s)=gJ (c^^^top32) (aQ s)^^^top32):=rfl
 generalize hg:c^^^top32=c0 at hx hc0 HM
 clear hg hct
 have hend:=u32_xor_nat (gJ c0 (aQ s)) 4294967295 (vI _ hc0 (nD s)) (by omega)
 rw[show((4294967295:Nat):Int)=4294967295 from rfl]at hend
 have HE:=Lib.hid hend
 clear hend
 go_enter Tryz.func104,Tryz.ntmps104
 go_wp2_with fail
 go_loopw [0,12] (λv i wr=>∃k:Nat,k<=s.size/\i=.int .i64 k/\v=.int .u32 ((gJ c0 ((aQ s).take k):Nat):Int)/\Below w.heap.size w wr/\∃cs:Array Value,aj wr w.heap.size cs 186/\(Gn cs\/Laid cs)) (λ_ i _=>s.size-(intOf i).toNat)
 case atStart=>exact⟨0,Nat.zero_le _,rfl,rfl,by exact bm,Ii,aj.new _ _ _,.inl Ij⟩
 case round=>
  obtain⟨k,hk,rfl,rfl,hb,cs,hB,hF⟩:=hrel
  have hfl:gJ c0 ((aQ s).take k)<4294967296:=vI _ hc0 (λb hb=>nD s b (List.mem_of_mem_take hb))
  by_cases hlt:k<s.size
  ·have HS:Hid (gJ c0 ((aQ s).take (k+1))=TA (gJ c0 ((aQ s).take k)) s[k].toNat):=by rw[Cc s k hlt];exact Dq _ _ _
   generalize hq:gJ c0 ((aQ s).take k)=q at*
   clear hq
   go_wp2_with fail
   refine(aaG w.heap.size cs q _ _ hB hF hfl s[k].toNat_lt).mono ?_;rintro e w2 ⟨rfl,ho,hp⟩
   have HP:=Lib.hid hp
   clear hp
   go_wp2_with fail
   obtain⟨cs2,hB2,hL⟩:=HP.out
   exact⟨⟨k+1,by omega,by go_num,by rw[HS.out],ho.below hb (Nat.le_refl _),cs2,hB2,.inr hL⟩,by simp[intOf];omega⟩
  ·obtain rfl:k=s.size:=by omega
   have ht:(aQ s).take s.size=aQ s:=List.take_of_length_le (by rw[nC];omega)
   rw[ht]
   have hE:=HE.out
   go_wp2_with fail
   go_ret
   refine⟨?_,hb⟩
   rw[HM.out];unfold top32;rfl
theorem sum_any(s:ByteArray)(w:World)(hs:s.size<=maxLen):
  Calls Tryz.prog 86 #[.string s] w (J4 ((iR (aQ s):Nat):Int) w):=by
 go_enter Tryz.func86,Tryz.ntmps86
 go_wp2_with fail
 refine(Vo 0 s _ (by omega) hs).mono ?_;rintro e w2 ⟨rfl,hb⟩
 go_wp2_with fail
 go_ret
 exact⟨rfl,hb⟩
end Go.Proofs.YtpgjploaliefdaaGreat.cw
