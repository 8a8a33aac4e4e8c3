/- frames.Join. LONE=1. No conditions. -/
import Derived.Test.YtpgjploaliefdaaGreatFh
import Derived.Test.YtpgjploaliefdaaGreatGa
import Derived.Test.YtpgjploaliefdaaGreatGr
namespace Go.Proofs.YtpgjploaliefdaaGreat.fr
open Go.RowKit cm cw ga gr
set_option linter.unusedVariables false
set_option linter.unusedSimpArgs false
def lI(f:Int×ByteArray):List Value:=[.int .i64 f.1,.string f.2]
theorem Nl:(Tryz.prog.info? 77).map (λi=>(i.zero,i.size,i.bytes))=some (some (.agg #[.int .i64 0,.string ⟨#[]⟩]),2,24):=by kernel_rfl
theorem Vs{f:Int×ByteArray}:∀u∈lI f,u.oneCell'=true:=by intro u hu;simp[lI]at hu;rcases hu with rfl|rfl<;>rfl
theorem jV{ops:Array Oper}{rest:List Oper}{o:Oper}{a:Act}{Q:Exit->Act->World->Prop}(w:World)(hw:Region.wanted o (yielded ops a.tmps)=true)(s x:Operand)
  (ho:o.op=.call {callee:=.builtin .append,args:= #[s,x],argTypes:= #[75,75]})
  (B:Nat) (v u:Value) (xs:List (Int×ByteArray)) (y:Int×ByteArray) (hs:a.eval s=v) (hx:a.eval x=u) (hown:ak 77 2 lI w B v xs) (hys:fH 2 lI w u [y]) (hbig:xs.length+1<100000000000) (hB:B<=w.heap.size)
  (h:∀v' w',ak 77 2 lI w' B v' (xs++[y])->w.grownBy w' v.ownBlock->(v'.ownBlock=v.ownBlock\/v'.ownBlock=some w.heap.size)->wpList Tryz.prog ops Q rest (a.put o.dst v') w'):wpList Tryz.prog ops Q (o::rest) a w:=
 Fq (α:=Int×ByteArray) (k:=2) (en:=lI) w hw s x _ ho (λ_=>rfl) (λ_=>Vs) _ 24 Tryz.underlying75 Nl rfl (by decide) (by decide) B v u xs [y] hs hx hown hys hbig hB h
abbrev OV:=Int×ByteArray
def pz(f:OV):Prop:=1<=f.1/\f.1<=127
instance(f:OV):Decidable (pz f):=by unfold pz;infer_instance
def iQ(f:OV):List UInt8:=(fF f.1.toNat f.2).data.toList
def iC(fs:List OV):List UInt8:=fs.flatMap iQ
def eH(fs:List OV):ByteArray×Int:=if∀f∈fs,pz f then(⟨(iC fs).toArray⟩,0)else(⟨#[]⟩,1)
theorem Ce(id:Nat)(body:ByteArray)(hs:body.size<100000000000):(fF id body).size<=body.size+15:=by
 have h1:(aG [id]).size=1:=aF _
 have h2:(aG (aW body.size)).size<=10:=by rw[aF];exact aX (by omega)
 have h3:∀X,(jM X).size=4:=λX=>by unfold jM;rw[aF];simp[le4]
 unfold fF oN
 simp only[ByteArray.size_append,h1,h3]
 omega
theorem Ez(fs:List OV)(k:Nat)(h:k<fs.length):iC (fs.take (k+1))=iC (fs.take k)++iQ (fs.getD k (0,⟨#[]⟩)):=by
 unfold iC
 rw[List.take_add_one,List.flatMap_append]
 simp[List.getD,h]
set_option maxRecDepth 100000 in
set_option maxHeartbeats 8000000 in
theorem J6(v:Value)(fs:List OV)(w:World)(hv:fH 2 lI w v fs)(hl:fs.length<=10000)(hs:∀f∈fs,f.2.size<=100000)(h63:∀f∈fs,-9223372036854775808<=f.1/\f.1<9223372036854775808):
  Calls Tryz.prog 33 #[v] w λe w'=>e=.returned (.tuple #[.string (eH fs).1,.int .i64 (eH fs).2])/\Below w.heap.size w w':=by
 obtain⟨ad,b,off,cap,rfl,h1,h2,h3,h4,h5,hin⟩:=hv.form
 have HV:=Lib.hid hin
 clear hv hin
 have HS:=Lib.hid hs
 have H63:=Lib.hid h63
 clear hs h63
 have HJ:Hid (eH fs=if∀f∈fs,pz f then(⟨(iC fs).toArray⟩,0)else(⟨#[]⟩,1)):=Lib.hid rfl
 go_enter Tryz.func33,Tryz.ntmps33
 go_wp2_with fail
 go_loopw [11] (λi wr=>∃k:Nat,k<=fs.length/\i=.int .i64 k/\Hid (∀j,j<k->pz (fs.getD j (0,⟨#[]⟩)))/\Hid (xY w.heap.size w.heap.size (iC (fs.take k)) wr)/\Hid ((iC (fs.take k)).length<=k*100015)/\Hid (Below w.heap.size w wr)/\w.heap.size<=wr.heap.size) (λi _=>fs.length-(intOf i).toNat)
 case atStart=>exact⟨0,Nat.zero_le _,rfl,Lib.hid (λj hj=>absurd hj (by omega)),Lib.hid (xY.fresh w),Lib.hid (by simp[iC]),Lib.hid (by exact bm),by simp⟩
 case round=>
  obtain⟨k,hk,rfl,hok,hB,hlen,hb,hwz⟩:=hrel
  by_cases hlk:k<fs.length
  ·obtain rfl:=h1 (by omega)
   have hx:fs[k]? =some (fs.getD k (0,⟨#[]⟩)):=by simp[List.getD,hlk]
   have hmem:fs.getD k (0,⟨#[]⟩)∈fs:=by simp[List.getD,hlk]
   have hsz:=HS.out _ hmem
   obtain⟨i1,i2⟩:=H63.out _ hmem
   have e0:=ah hb.out (HV.out.at hx 0 _ rfl)
   have e1:=ah hb.out (HV.out.at hx 1 _ rfl)
   rw[Nat.add_zero]at e0
   have hlt:=h5 (by omega)
   have hsn:=Lib.hid (Ez fs k hlk)
   have hbad:Hid (¬pz (fs.getD k (0,⟨#[]⟩))->eH fs=(⟨#[]⟩,1)):=Lib.hid (λh=>by rw[HJ.out,if_neg (λh2=>h (h2 _ hmem))])
   have hnext:Hid (pz (fs.getD k (0,⟨#[]⟩))->∀j,j<k+1->pz (fs.getD j (0,⟨#[]⟩))):=Lib.hid (λh j hj=>by
    by_cases e:j=k
    ·rw[e];exact h
    ·exact hok.out j (by omega))
   clear hx hmem hok
   generalize fs.getD k (0,⟨#[]⟩)=f at*
   obtain⟨id,body⟩:=f
   dsimp only at*
   generalize iC (fs.take k)=done at*
   by_cases hid:1<=id/\id<=127
   ·obtain⟨n,rfl⟩:=Int.eq_ofNat_of_zero_le (show 0<=id by omega)
    have HP:=Lib.hid (λW=>Vp n body W (by omega) (by omega) (by omega))
    have hfs:=Ce n body (by omega)
    have X8:Hid (iC (fs.take (k+1))=done++(fF n body).data.toList):=Lib.hid (by rw[hsn.out];rfl)
    have hbl:(fF n body).data.toList.length=(fF n body).size:=Array.length_toList
    have hnx:=Lib.hid (hnext.out hid)
    clear hsn hbad hnext
    generalize fF n body=S at*
    go_wp2_with fail
    refine(HP.out _).mono ?_;rintro e' w1 ⟨rfl,k1⟩
    have HB1:Hid (xY w.heap.size w.heap.size done w1):=Lib.hid (hB.out.tr (by exact bm))
    have hb1:Hid (Below w.heap.size w w1):=Lib.hid (by have:=hb.out;exact bm)
    have hlen2:=hlen.out
    have hL:Hid ((done++S.data.toList).length<=(k+1)*100015):=Lib.hid (by rw[List.length_append,hbl];omega)
    have hdl:done.length+S.size<100000000000000:=by omega
    have hws:=hb1.out.size
    clear k1 hB hb hlen HP hlen2 hbl
    go_wp2_with fail
    refine(write_any w.heap.size w.heap.size done S _ HB1.out hdl hws).mono ?_;rintro e' w2 ⟨rfl,hB2,k2⟩
    have HB2:=Lib.hid hB2
    have hb2:Hid (Below w.heap.size w w2):=Lib.hid (hb1.out.trans k2)
    have ahh:=hb2.out.size
    clear hB2 k2 HB1 hb1 hws hwz
    go_wp2_with fail
    exact⟨⟨k+1,by omega,by go_num,hnx,Lib.hid (by rw[X8.out];exact HB2.out),Lib.hid (by rw[X8.out];exact hL.out),hb2,ahh⟩,by simp[intOf];omega⟩
   ·have HB:=Lib.hid (hbad.out hid)
    have HP:=Lib.hid (λW=>Vr id body W (by omega))
    clear hsn hbad hnext
    go_wp2_with fail
    refine(HP.out _).mono ?_;rintro e' w1 ⟨rfl,k1⟩
    have hb1:Hid (Below w.heap.size w w1):=Lib.hid (by have:=hb.out;exact bm)
    clear k1
    go_wp2_with fail
    go_ret2
    exact⟨by rw[HB.out];rfl,hb1.out⟩
  ·obtain rfl:k=fs.length:=by omega
   rw[List.take_length]at hB
   have HR:Hid (eH fs=(⟨(iC fs).toArray⟩,0)):=Lib.hid (by
    rw[HJ.out,if_pos]
    intro f hf
    obtain⟨i,hi,rfl⟩:=List.getElem_of_mem hf
    have:=hok.out i hi
    simpa [List.getD,hi]using this)
   go_wp2_with fail
   refine(yR w.heap.size w.heap.size (iC fs) _ hB.out hwz).mono ?_;rintro e' w1 ⟨rfl,hB1,k1⟩
   have hb1:Hid (Below w.heap.size w w1):=Lib.hid (hb.out.trans k1)
   clear hB1 k1 hB hb
   go_wp2_with fail
   go_ret2
   exact⟨by rw[HR.out];rfl,hb1.out⟩
end Go.Proofs.YtpgjploaliefdaaGreat.fr
