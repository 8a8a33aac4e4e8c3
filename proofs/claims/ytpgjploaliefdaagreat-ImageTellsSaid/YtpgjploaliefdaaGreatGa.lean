/- The library's shelf over the lone program: strings.Builder, Clone. LONE=1. No conditions. -/
import Derived.Test.YtpgjploaliefdaaGreatG16
import Derived.Shelf.Strings.BuilderF
import Derived.Shelf.Strconv.Clone
namespace Go.Proofs.YtpgjploaliefdaaGreat.ga
open Go.RowKit
set_option linter.unusedVariables false
set_option linter.unusedSimpArgs false
def ren:Shelf.Ren:=⟨λ|166=>44|240=>75|276=>93|169=>48|_=>0,λ|0=>0|3=>3|4=>4|5=>5|9=>9|20=>20|37=>91|70=>90|72=>93|75=>95|80=>99|127=>137|164=>157|_=>0,id⟩
theorem lays240:Lays.n240 Tryz.prog ren where
 mixed:=by kernel_rfl
 f240:=Tryz.func75.trans (congrArg some (by kernel_rfl))
 f276:=Tryz.func93.trans (congrArg some (by kernel_rfl))
 t0:=Tryz.underlying0
 a0:=Tryz.isAgg0
 z0:=Tryz.sizeOf0
 v0:=Tryz.zeroValue0
 t4:=Tryz.underlying4
 a4:=Tryz.isAgg4
 z4:=Tryz.sizeOf4
 v4:=Tryz.zeroValue4
 t9:=Tryz.underlying9
 a9:=Tryz.isAgg9
 z9:=Tryz.sizeOf9
 v9:=Tryz.zeroValue9
 t20:=Tryz.underlying20
 a20:=Tryz.isAgg20
 z20:=Tryz.sizeOf20
 v20:=Tryz.zeroValue20
 t70:=Tryz.underlying90
 a70:=Tryz.isAgg90
 z70:=Tryz.sizeOf90
 v70:=Tryz.zeroValue90
 t72:=Tryz.underlying93
 a72:=Tryz.isAgg93
 z72:=Tryz.sizeOf93
 v72:=Tryz.zeroValue93
 t164:=Tryz.underlying157
 a164:=Tryz.isAgg157
 z164:=Tryz.sizeOf157
 v164:=Tryz.zeroValue157
theorem lays166:Lays.n166 Tryz.prog ren where
 mixed:=by kernel_rfl
 f166:=Tryz.func44.trans (congrArg some (by kernel_rfl))
 f240:=Tryz.func75.trans (congrArg some (by kernel_rfl))
 f276:=Tryz.func93.trans (congrArg some (by kernel_rfl))
 t0:=Tryz.underlying0
 a0:=Tryz.isAgg0
 z0:=Tryz.sizeOf0
 v0:=Tryz.zeroValue0
 t3:=Tryz.underlying3
 a3:=Tryz.isAgg3
 z3:=Tryz.sizeOf3
 v3:=Tryz.zeroValue3
 t4:=Tryz.underlying4
 a4:=Tryz.isAgg4
 z4:=Tryz.sizeOf4
 v4:=Tryz.zeroValue4
 t9:=Tryz.underlying9
 a9:=Tryz.isAgg9
 z9:=Tryz.sizeOf9
 v9:=Tryz.zeroValue9
 t20:=Tryz.underlying20
 a20:=Tryz.isAgg20
 z20:=Tryz.sizeOf20
 v20:=Tryz.zeroValue20
 t37:=Tryz.underlying91
 a37:=Tryz.isAgg91
 z37:=Tryz.sizeOf91
 v37:=Tryz.zeroValue91
 t70:=Tryz.underlying90
 a70:=Tryz.isAgg90
 z70:=Tryz.sizeOf90
 v70:=Tryz.zeroValue90
 t72:=Tryz.underlying93
 a72:=Tryz.isAgg93
 z72:=Tryz.sizeOf93
 v72:=Tryz.zeroValue93
 t75:=Tryz.underlying95
 a75:=Tryz.isAgg95
 z75:=Tryz.sizeOf95
 v75:=Tryz.zeroValue95
 t164:=Tryz.underlying157
 a164:=Tryz.isAgg157
 z164:=Tryz.sizeOf157
 v164:=Tryz.zeroValue157
theorem lays169:Lays.n169 Tryz.prog ren where
 mixed:=by kernel_rfl
 f169:=Tryz.func48.trans (congrArg some (by kernel_rfl))
 t0:=Tryz.underlying0
 a0:=Tryz.isAgg0
 z0:=Tryz.sizeOf0
 v0:=Tryz.zeroValue0
 t3:=Tryz.underlying3
 a3:=Tryz.isAgg3
 z3:=Tryz.sizeOf3
 v3:=Tryz.zeroValue3
 t9:=Tryz.underlying9
 a9:=Tryz.isAgg9
 z9:=Tryz.sizeOf9
 v9:=Tryz.zeroValue9
 t37:=Tryz.underlying91
 a37:=Tryz.isAgg91
 z37:=Tryz.sizeOf91
 v37:=Tryz.zeroValue91
 t70:=Tryz.underlying90
 a70:=Tryz.isAgg90
 z70:=Tryz.sizeOf90
 v70:=Tryz.zeroValue90
 t72:=Tryz.underlying93
 a72:=Tryz.isAgg93
 z72:=Tryz.sizeOf93
 v72:=Tryz.zeroValue93
 t127:=Tryz.underlying137
 a127:=Tryz.isAgg137
 z127:=Tryz.sizeOf137
 v127:=Tryz.zeroValue137
theorem aaH:Builder.X72 Tryz.prog ren where
 sizeBuilder:=by kernel_rfl
 liesBuilder:=by kernel_rfl
theorem aaI:Builder.Extra Tryz.prog ren:={aaH with
 t5:=Tryz.underlying5,
 a5:=Tryz.isAgg5,
 z5:=Tryz.sizeOf5,
 v5:=Tryz.zeroValue5,
 infoByte:=by kernel_rfl,
 cellsByte:=by kernel_rfl,
 sizeByte:=by kernel_rfl,
 neB5:=by decide}
def xY(B b:Nat)(l:List UInt8)(w:World):Prop:=Lib.IsBuilderF 93 5 B b (Lib.byteCells l) w
theorem Za{T e:TypeId}{B b:Nat}{p:Value}{bs:List Value}{w w':World}(h:Lib.BuilderAtF T e B b p bs w)(hb:Below w.heap.size w w'):Lib.BuilderAtF T e B b p bs w':=by
 have hl:=h.lt
 obtain⟨h1,v,h2,h3,h4⟩:=h
 refine⟨h1,v,(hb.block b hl).trans h2,World.ownsRowF.kept h3 (row:=none) ⟨hb.os,hb.tape,hb.output,hb.size,λk hk _=>hb.block k hk⟩ ?_,h4⟩
 rcases hv:v.ownBlock with _|k
 ·exact .inl rfl
 ·exact .inr (λe=>by cases e)
theorem xY.tr{B b:Nat}{l:List UInt8}{w w':World}(h:xY B b l w)(hb:Below w.heap.size w w'):xY B b l w':=h.elim (λh=>.inl (Za h hb)) (λh=>.inr (Za h hb))
theorem xY.fresh(w:World):xY w.heap.size w.heap.size [] (w.alloc (.cells #[.pointer none,.slice none 0 0] 93)):=Lib.IsBuilderF.of (Lib.fresh_isBuilder _ _ w)
theorem write_any(B b:Nat)(l:List UInt8)(s:ByteArray)(w:World)(h:xY B b l w)(hlen:l.length+s.size<100000000000000)(hB:B<=w.heap.size):
  Calls Tryz.prog 44 #[.pointer (some ⟨b,0,none⟩),.string s] w λe w'=>e=.returned (.tuple #[.int .i64 s.size,.nilIface])/\xY B b (l++s.data.toList) w'/\Below B w w':=by
 refine(Any.Builder_WriteString_f lays166 aaI B b (Lib.byteCells l) s w h (by rw[Lib.byteCells_length];omega) hB).mono ?_
 rintro e w' ⟨rfl,h1,h2⟩
 refine⟨rfl,.inr ?_,h2⟩
 have e:Lib.byteCells (l++s.data.toList)=Lib.byteCells l++Lib.strCells s:=by simp[Lib.byteCells,Lib.strCells]
 rw[e]
 exact h1
theorem yR(B b:Nat)(l:List UInt8)(w:World)(h:xY B b l w)(hB:B<=w.heap.size):
  Calls Tryz.prog 48 #[.pointer (some ⟨b,0,none⟩)] w λe w'=>e=.returned (.string ⟨l.toArray⟩)/\xY B b l w'/\Below B w w':=
 Any.Builder_String_any_f lays169 aaI B b l w h hB
attribute [irreducible] xY
end Go.Proofs.YtpgjploaliefdaaGreat.ga
