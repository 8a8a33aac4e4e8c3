/- The library's shelf over the lone program: strings.Builder, Clone. LONE=1. No conditions. -/
import Derived.Test.YtlncengggmgdgaaGreatG18
import Derived.Test.YtlncengggmgdgaaGreatG19
import Derived.Shelf.Strings.BuilderF
import Derived.Shelf.Strconv.Clone
set_option linter.unusedVariables false
set_option linter.unusedSimpArgs false
namespace Go.Proofs.YtlncengggmgdgaaGreat.ga
open Go.RowKit par
variable {HC : Code}
attribute [local irreducible] par.ah
def ren:Shelf.Ren:=⟨λ|166=>64|240=>108|276=>132|169=>66|316=>172|_=>0,λ|0=>0|3=>3|4=>4|5=>5|9=>9|20=>20|37=>92|70=>114|72=>116|75=>118|80=>121|127=>162|164=>188|_=>0,id⟩
theorem lays166:Lays.n166 (par.ah HC) ren where
 mixed:=by kernel_rfl
 f166:=(adu (H:=HC)).trans (congrArg some (by kernel_rfl))
 f240:=(ZL (H:=HC)).trans (congrArg some (by kernel_rfl))
 f276:=(ZY (H:=HC)).trans (congrArg some (by kernel_rfl))
 t0:=((par.aB HC 0).trans Tryz.underlying0)
 a0:=λw=>(bV HC 0 w).trans (Tryz.isAgg0 w)
 z0:=λw=>(bF HC 0 w).trans (Tryz.sizeOf0 w)
 v0:=λw=>(dB HC 0 w).trans (Tryz.zeroValue0 w)
 t3:=((par.aB HC 3).trans Tryz.underlying3)
 a3:=λw=>(bV HC 3 w).trans (Tryz.isAgg3 w)
 z3:=λw=>(bF HC 3 w).trans (Tryz.sizeOf3 w)
 v3:=λw=>(dB HC 3 w).trans (Tryz.zeroValue3 w)
 t4:=((par.aB HC 4).trans Tryz.underlying4)
 a4:=λw=>(bV HC 4 w).trans (Tryz.isAgg4 w)
 z4:=λw=>(bF HC 4 w).trans (Tryz.sizeOf4 w)
 v4:=λw=>(dB HC 4 w).trans (Tryz.zeroValue4 w)
 t9:=((par.aB HC 9).trans Tryz.underlying9)
 a9:=λw=>(bV HC 9 w).trans (Tryz.isAgg9 w)
 z9:=λw=>(bF HC 9 w).trans (Tryz.sizeOf9 w)
 v9:=λw=>(dB HC 9 w).trans (Tryz.zeroValue9 w)
 t20:=((par.aB HC 20).trans Tryz.underlying20)
 a20:=λw=>(bV HC 20 w).trans (Tryz.isAgg20 w)
 z20:=λw=>(bF HC 20 w).trans (Tryz.sizeOf20 w)
 v20:=λw=>(dB HC 20 w).trans (Tryz.zeroValue20 w)
 t37:=((par.aB HC 92).trans Tryz.underlying92)
 a37:=λw=>(bV HC 92 w).trans (Tryz.isAgg92 w)
 z37:=λw=>(bF HC 92 w).trans (Tryz.sizeOf92 w)
 v37:=λw=>(dB HC 92 w).trans (Tryz.zeroValue92 w)
 t70:=((par.aB HC 114).trans Tryz.underlying114)
 a70:=λw=>(bV HC 114 w).trans (Tryz.isAgg114 w)
 z70:=λw=>(bF HC 114 w).trans (Tryz.sizeOf114 w)
 v70:=λw=>(dB HC 114 w).trans (Tryz.zeroValue114 w)
 t72:=((par.aB HC 116).trans Tryz.underlying116)
 a72:=λw=>(bV HC 116 w).trans (Tryz.isAgg116 w)
 z72:=λw=>(bF HC 116 w).trans (Tryz.sizeOf116 w)
 v72:=λw=>(dB HC 116 w).trans (Tryz.zeroValue116 w)
 t75:=((par.aB HC 118).trans Tryz.underlying118)
 a75:=λw=>(bV HC 118 w).trans (Tryz.isAgg118 w)
 z75:=λw=>(bF HC 118 w).trans (Tryz.sizeOf118 w)
 v75:=λw=>(dB HC 118 w).trans (Tryz.zeroValue118 w)
 t164:=((par.aB HC 188).trans Tryz.underlying188)
 a164:=λw=>(bV HC 188 w).trans (Tryz.isAgg188 w)
 z164:=λw=>(bF HC 188 w).trans (Tryz.sizeOf188 w)
 v164:=λw=>(dB HC 188 w).trans (Tryz.zeroValue188 w)
theorem lays169:Lays.n169 (par.ah HC) ren where
 mixed:=by kernel_rfl
 f169:=(adw (H:=HC)).trans (congrArg some (by kernel_rfl))
 t0:=((par.aB HC 0).trans Tryz.underlying0)
 a0:=λw=>(bV HC 0 w).trans (Tryz.isAgg0 w)
 z0:=λw=>(bF HC 0 w).trans (Tryz.sizeOf0 w)
 v0:=λw=>(dB HC 0 w).trans (Tryz.zeroValue0 w)
 t3:=((par.aB HC 3).trans Tryz.underlying3)
 a3:=λw=>(bV HC 3 w).trans (Tryz.isAgg3 w)
 z3:=λw=>(bF HC 3 w).trans (Tryz.sizeOf3 w)
 v3:=λw=>(dB HC 3 w).trans (Tryz.zeroValue3 w)
 t9:=((par.aB HC 9).trans Tryz.underlying9)
 a9:=λw=>(bV HC 9 w).trans (Tryz.isAgg9 w)
 z9:=λw=>(bF HC 9 w).trans (Tryz.sizeOf9 w)
 v9:=λw=>(dB HC 9 w).trans (Tryz.zeroValue9 w)
 t37:=((par.aB HC 92).trans Tryz.underlying92)
 a37:=λw=>(bV HC 92 w).trans (Tryz.isAgg92 w)
 z37:=λw=>(bF HC 92 w).trans (Tryz.sizeOf92 w)
 v37:=λw=>(dB HC 92 w).trans (Tryz.zeroValue92 w)
 t70:=((par.aB HC 114).trans Tryz.underlying114)
 a70:=λw=>(bV HC 114 w).trans (Tryz.isAgg114 w)
 z70:=λw=>(bF HC 114 w).trans (Tryz.sizeOf114 w)
 v70:=λw=>(dB HC 114 w).trans (Tryz.zeroValue114 w)
 t72:=((par.aB HC 116).trans Tryz.underlying116)
 a72:=λw=>(bV HC 116 w).trans (Tryz.isAgg116 w)
 z72:=λw=>(bF HC 116 w).trans (Tryz.sizeOf116 w)
 v72:=λw=>(dB HC 116 w).trans (Tryz.zeroValue116 w)
 t127:=((par.aB HC 162).trans Tryz.underlying162)
 a127:=λw=>(bV HC 162 w).trans (Tryz.isAgg162 w)
 z127:=λw=>(bF HC 162 w).trans (Tryz.sizeOf162 w)
 v127:=λw=>(dB HC 162 w).trans (Tryz.zeroValue162 w)
theorem aa1:Lays.n316 (par.ah HC) ren where
 mixed:=by kernel_rfl
 f316:=(aag (H:=HC)).trans (congrArg some (by kernel_rfl))
 t0:=((par.aB HC 0).trans Tryz.underlying0)
 a0:=λw=>(bV HC 0 w).trans (Tryz.isAgg0 w)
 z0:=λw=>(bF HC 0 w).trans (Tryz.sizeOf0 w)
 v0:=λw=>(dB HC 0 w).trans (Tryz.zeroValue0 w)
 t3:=((par.aB HC 3).trans Tryz.underlying3)
 a3:=λw=>(bV HC 3 w).trans (Tryz.isAgg3 w)
 z3:=λw=>(bF HC 3 w).trans (Tryz.sizeOf3 w)
 v3:=λw=>(dB HC 3 w).trans (Tryz.zeroValue3 w)
 t4:=((par.aB HC 4).trans Tryz.underlying4)
 a4:=λw=>(bV HC 4 w).trans (Tryz.isAgg4 w)
 z4:=λw=>(bF HC 4 w).trans (Tryz.sizeOf4 w)
 v4:=λw=>(dB HC 4 w).trans (Tryz.zeroValue4 w)
 t9:=((par.aB HC 9).trans Tryz.underlying9)
 a9:=λw=>(bV HC 9 w).trans (Tryz.isAgg9 w)
 z9:=λw=>(bF HC 9 w).trans (Tryz.sizeOf9 w)
 v9:=λw=>(dB HC 9 w).trans (Tryz.zeroValue9 w)
 t37:=((par.aB HC 92).trans Tryz.underlying92)
 a37:=λw=>(bV HC 92 w).trans (Tryz.isAgg92 w)
 z37:=λw=>(bF HC 92 w).trans (Tryz.sizeOf92 w)
 v37:=λw=>(dB HC 92 w).trans (Tryz.zeroValue92 w)
 t127:=((par.aB HC 162).trans Tryz.underlying162)
 a127:=λw=>(bV HC 162 w).trans (Tryz.isAgg162 w)
 z127:=λw=>(bF HC 162 w).trans (Tryz.sizeOf162 w)
 v127:=λw=>(dB HC 162 w).trans (Tryz.zeroValue162 w)
theorem laysM316:LaysM.n316 (par.ah HC) ren:={aa1 with
 t5:=((par.aB HC 5).trans Tryz.underlying5),
 a5:=λw=>(bV HC 5 w).trans (Tryz.isAgg5 w),
 z5:=λw=>(bF HC 5 w).trans (Tryz.sizeOf5 w),
 v5:=λw=>(dB HC 5 w).trans (Tryz.zeroValue5 w),
 i0:=by kernel_rfl,
 i3:=by kernel_rfl,
 i4:=by kernel_rfl,
 i5:=by kernel_rfl,
 i9:=by kernel_rfl,
 i37:=by kernel_rfl,
 i127:=by kernel_rfl}
theorem aer:Builder.X72 (par.ah HC) ren where
 sizeBuilder:=by kernel_rfl
 liesBuilder:=by kernel_rfl
theorem agP:Builder.Extra (par.ah HC) ren:={aer with
 t5:=((par.aB HC 5).trans Tryz.underlying5),
 a5:=λw=>(bV HC 5 w).trans (Tryz.isAgg5 w),
 z5:=λw=>(bF HC 5 w).trans (Tryz.sizeOf5 w),
 v5:=λw=>(dB HC 5 w).trans (Tryz.zeroValue5 w),
 infoByte:=by kernel_rfl,
 cellsByte:=by kernel_rfl,
 sizeByte:=by kernel_rfl,
 neB5:=by decide}
theorem KJ(s:ByteArray)(w:World)(h:s.size<=281474976710656):
  Calls (par.ah HC) 172 #[.string s] w λe w'=>e=.returned (.string s)/\Below w.heap.size w w':=Any.stringslite_Clone laysM316 s w h
theorem clone_any(s:ByteArray)(w:World)(h:s.size<=281474976710656):
  Calls (par.ah HC) 142 #[.string s] w λe w'=>e=.returned (.string s)/\Below w.heap.size w w':=by
 go_enter (par.Z7 (H:=HC)),Tryz.ntmps142
 go_wp2_with fail
 refine(KJ s _ h).mono ?_;rintro e w1 ⟨rfl,k1⟩
 go_wp2_with fail
 go_ret
 exact⟨rfl,k1⟩
def KQ(B b:Nat)(l:List UInt8)(w:World):Prop:=Lib.IsBuilderF 116 5 B b (Lib.byteCells l) w
theorem ab8{T e:TypeId}{B b:Nat}{p:Value}{bs:List Value}{w w':World}(h:Lib.BuilderAtF T e B b p bs w)(hb:Below w.heap.size w w'):Lib.BuilderAtF T e B b p bs w':=by
 have hl:=h.lt
 obtain⟨h1,v,h2,h3,h4⟩:=h
 refine⟨h1,v,(hb.block b hl).trans h2,World.ownsRowF.kept h3 (row:=none) ⟨hb.os,hb.tape,hb.output,hb.size,λk hk _=>hb.block k hk⟩ ?_,h4⟩
 rcases hv:v.ownBlock with _|k
 ·exact .inl rfl
 ·exact .inr (λe=>by cases e)
theorem KQ.tr{B b:Nat}{l:List UInt8}{w w':World}(h:KQ B b l w)(hb:Below w.heap.size w w'):KQ B b l w':=h.elim (λh=>.inl (ab8 h hb)) (λh=>.inr (ab8 h hb))
theorem KQ.fresh(w:World):KQ w.heap.size w.heap.size [] (w.alloc (.cells #[.pointer none,.slice none 0 0] 116)):=Lib.IsBuilderF.of (Lib.fresh_isBuilder _ _ w)
theorem write_any(B b:Nat)(l:List UInt8)(s:ByteArray)(w:World)(h:KQ B b l w)(hlen:l.length+s.size<100000000000000)(hB:B<=w.heap.size):
  Calls (par.ah HC) 64 #[.pointer (some ⟨b,0,none⟩),.string s] w λe w'=>e=.returned (.tuple #[.int .i64 s.size,.nilIface])/\KQ B b (l++s.data.toList) w'/\Below B w w':=by
 refine(Any.Builder_WriteString_f lays166 agP B b (Lib.byteCells l) s w h (by rw[Lib.byteCells_length];omega) hB).mono ?_
 rintro e w' ⟨rfl,h1,h2⟩
 refine⟨rfl,.inr ?_,h2⟩
 have e:Lib.byteCells (l++s.data.toList)=Lib.byteCells l++Lib.strCells s:=by simp[Lib.byteCells,Lib.strCells]
 rw[e]
 exact h1
theorem OB(B b:Nat)(l:List UInt8)(w:World)(h:KQ B b l w)(hB:B<=w.heap.size):
  Calls (par.ah HC) 66 #[.pointer (some ⟨b,0,none⟩)] w λe w'=>e=.returned (.string ⟨l.toArray⟩)/\KQ B b l w'/\Below B w w':=
 Any.Builder_String_any_f lays169 agP B b l w h hB
attribute [irreducible] KQ
end Go.Proofs.YtlncengggmgdgaaGreat.ga
