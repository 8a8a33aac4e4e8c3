/- image.Objects. No conditions. -/
import Derived.Test.YtpgjploaliefdaaGreatG20
import Derived.Test.YtpgjploaliefdaaGreatG13
import Derived.Shelf.Strings.BuilderK
namespace Go.Proofs.YtpgjploaliefdaaGreat.im
open Go Go.RowKit cm cw ga gr ob hd cp
open fr (OwnB leB qE iI aG zZ jU aW aX lZ aF qB put_any bQ pq)
set_option linter.unusedVariables false
set_option linter.unusedSimpArgs false
set_option maxRecDepth 100000
set_option maxHeartbeats 2000000
def sub(zs:List Int)(a n:Nat):List Int:=(zs.take (a+n)).drop a
theorem nS{zs:List Int}{a n:Nat}(h:a+n<=zs.length):(sub zs a n).length=n:=by simp[sub];omega
theorem Io{zs:List Int}{a n i:Nat}(hi:i<n):(sub zs a n).getD i 0=zs.getD (a+i) 0:=by
 unfold sub
 simp only[List.getD,List.getElem?_drop,List.getElem?_take]
 rw[if_pos (by omega)]
theorem lD{zs:List Int}(h:Small zs)(a n:Nat):Small (sub zs a n):=λi=>by
 by_cases hi:i<n
 ·rw[Io hi];exact h _
 ·have:(sub zs a n).getD i 0=0:=by
   unfold sub
   simp only[List.getD,List.getElem?_drop,List.getElem?_take]
   rw[if_neg (by omega)]
   rfl
  rw[this]
  exact⟨Int.le_refl _,by decide⟩
theorem Aa{W:World}{zs:List Int}{b off cap a n:Nat}{ad:Option Addr}(hw:bC W b off zs.length zs)(hb:b<W.heap.size)(hl:zs.length<1000000000000)(hc:zs.length<=cap)(hc2:cap<9223372036854775808)(h:a+n<=zs.length)(had:0<n->ad=some ⟨b,off+a,none⟩)(hnone:ad=none->cap-a=0):aN W (.slice ad n (cap-a)) (sub zs a n):=by
 have hsl:=nS h
 refine⟨ad,b,off+a,cap-a,by rw[hsl],⟨λh=>had (by omega),hnone⟩,by omega,by omega,hb,jH λi hi=> ?_⟩
 rw[hsl]at hi
 rw[Io hi,Nat.add_assoc]
 exact hw.at (a+i) (by omega)
theorem VF(x y:Nat)(w:World)(b:Nat)(hb:aj w b #[.int .u64 x,.int .u64 y] 24)(hx:x<18446744073709551616)(hy:y<18446744073709551616):
  Calls Tryz.prog 46 #[.slice (some ⟨b,0,none⟩) 2 2] w λe w'=>e=.returned (.string (aG (bQ [x,y])))/\Below w.heap.size w w':=by
 obtain⟨lb,cb,fb⟩:=hb.get
 exact pq b 2 [x,y] w (λi hi=>by rcases(show i=0\/i=1 by simp at hi;omega)with rfl|rfl<;>exact cb _) (λi=>by rcases i with _|_|i<;>simp[List.getD]<;>omega) (by simp) (by simp)
theorem VG(x y z:Nat)(w:World)(b:Nat)(hb:aj w b #[.int .u64 x,.int .u64 y,.int .u64 z] 24)(hx:x<18446744073709551616)(hy:y<18446744073709551616)(hz:z<18446744073709551616):
  Calls Tryz.prog 46 #[.slice (some ⟨b,0,none⟩) 3 3] w λe w'=>e=.returned (.string (aG (bQ [x,y,z])))/\Below w.heap.size w w':=by
 obtain⟨lb,cb,fb⟩:=hb.get
 exact pq b 3 [x,y,z] w (λi hi=>by rcases(show i=0\/i=1\/i=2 by simp at hi;omega)with rfl|rfl|rfl<;>exact cb _) (λi=>by rcases i with _|_|_|i<;>simp[List.getD]<;>omega) (by simp) (by simp)
def uRow(l:List Nat):List UInt8:=(aG (bQ l)).data.toList
def BD(zs:List Int):List UInt8:=(aG (eP zs)).data.toList
def gy(zs:List Int)(o:Ob):List UInt8:=if o.g then uRow [1,o.t.toNat]else uRow [0,o.s.toNat,o.p.toNat]++bn (sub zs (o.pos.toNat+1) o.p.toNat)++BD (sub zs (o.pos.toNat+1+o.p.toNat) (o.s.toNat-o.p.toNat))
def mG(zs:List Int)(o:Ob):Bool:=o.g||(sub zs (o.pos.toNat+1) o.p.toNat).all eU
def uU(zs:List Int)(os:List Ob):ByteArray×Int:=
 if(dY zs.length os []).isNone then(⟨#[]⟩,1)else if os.all (mG zs)then(⟨(uP os.length++os.flatMap (gy zs)).toArray⟩,0)else(⟨#[]⟩,3)
theorem BF{len:Nat}:∀{os:List Ob}{acc l:List Int},dY len os acc=some l->∀o∈os,lM len o
 |[],acc,l,h,o,ho=>by simp at ho
 |c::os,acc,l,h,o,ho=>by
  have h:(if nK len acc c then none else dY len os (acc++nU c))=some l:=h
  split at h
  ·cases h
  ·rename_i hb
   rcases List.mem_cons.1 ho with rfl|ho
   ·have h1:o.pos=acc.length:=Decidable.byContradiction λe=>hb (.inl e)
    have h2:bJ o.s o.p=true:=by
     rcases e:bJ o.s o.p with _|_
     ·exact absurd (.inr (.inr (.inl e))) hb
     ·rfl
    have h3:¬(len:Int)-o.pos-1<o.s:=λe=>hb (.inr (.inr (.inr e)))
    obtain⟨r1,r2,r3,r4⟩:=kJ h2
    exact⟨by omega,r1,r2,r3,r4,by omega⟩
   ·exact BF h o ho
theorem uI(B b:Nat)(l:List UInt8)(s:ByteArray)(w:World)(h:xY B b l w)(hlen:l.length+s.size<100000000000000)(hB:B<=w.heap.size):
  Calls Tryz.prog 44 #[.pointer (some ⟨b,0,none⟩),.string s] w λe w'=>e=.returned (.tuple #[.int .i64 s.size,.nilIface])/\xY B b (l++s.data.toList) w'/\Below B w w'/\Lib.OthersKept 5 (some b) w w':=by
 unfold xY at*
 refine(Any.Builder_WriteString_k lays166 aaI B b (Lib.byteCells l) s w h (by rw[Lib.byteCells_length];omega) hB).mono ?_
 rintro e w' ⟨rfl,h1,h2,h3⟩
 refine⟨rfl,.inr ?_,h2,h3⟩
 have e:Lib.byteCells (l++s.data.toList)=Lib.byteCells l++Lib.strCells s:=by simp[Lib.byteCells,Lib.strCells]
 rw[e]
 exact h1
theorem VH{w w':World}{n b:Nat}{cs:Array Value}{T:TypeId}(h:aj w n cs T)(ho:Lib.OthersKept 5 (some b) w w')(hn:n≠b)(hT:T≠5):aj w' n cs T:=
 aj.of (ho n _ h.raw (λe=>hn (Option.some.inj e)) (λc fz e=>hT (by cases e;rfl)))
end Go.Proofs.YtpgjploaliefdaaGreat.im
namespace Go.Proofs.YtpgjploaliefdaaGreat.im
open Go Go.RowKit cm cw ga gr ob hd cp
open fr (OwnB leB qE iI aG zZ jU aW aX lZ aF qB put_any bQ pq)
open ck (OL kQ)
set_option linter.unusedVariables false
set_option linter.unusedSimpArgs false
set_option maxRecDepth 100000
set_option maxHeartbeats 4000000
theorem yU(zs:List Int)(os:List Ob)(k:Nat)(h:k<os.length):(os.take (k+1)).flatMap (gy zs)=(os.take k).flatMap (gy zs)++gy zs (dL os k):=by
 rw[List.take_add_one,List.getElem?_eq_getElem h,List.flatMap_append]
 congr 1
 simp[dL,List.getD,h]
theorem J7{zs:List Int}{o:Ob}(hz:∀x∈zs,0<=x/\x<18446744073709551616)(hf:lM zs.length o)(ht:0<=o.t/\o.t<18446744073709551616):(gy zs o).length<=5000:=by
 obtain⟨f0,f1,f2,f3,f4,f5⟩:=hf
 have hs:∀l:List Nat,(aG l).data.toList.length=l.length:=λl=>by
  rw[Array.length_toList]
  exact aF l
 unfold gy
 split
 ·unfold uRow
  rw[hs]
  have h1:=aX (v:=1) (by omega)
  have h2:=aX (v:=o.t.toNat) (by omega)
  simp[bQ]
  omega
 ·have h1:=aX (v:=0) (by omega)
  have h2:=aX (v:=o.s.toNat) (by omega)
  have h3:=aX (v:=o.p.toNat) (by omega)
  have h4:=nH (sub zs (o.pos.toNat+1) o.p.toNat) (λx hx=>hz x (List.mem_of_mem_take (List.mem_of_mem_drop hx)))
  have h5:(sub zs (o.pos.toNat+1) o.p.toNat).length=o.p.toNat:=nS (by omega)
  have h6:(sub zs (o.pos.toNat+1+o.p.toNat) (o.s.toNat-o.p.toNat)).length=o.s.toNat-o.p.toNat:=nS (by omega)
  unfold uRow BD
  rw[List.length_append,List.length_append,hs,hs,nG,h6]
  simp only[bQ,List.flatMap_cons,List.flatMap_nil,List.length_append,List.length_nil]
  omega
theorem J8(W:World):(sizeOf (Tryz.prog.elem 29)).run Tryz.prog W=.ok 1 W:=by kernel_rfl
theorem xQ(b off n cap a k:Nat)(h:a+k<=cap)(l h':Int)(hl:l=a)(hh:h'=((a+k:Nat):Int)):∃A:Addr,(∀W,(Instr.slice 29 (.slice (some ⟨b,off,none⟩) n cap) (some (.int .i64 l)) (some (.int .i64 h')) none).run Tryz.prog W=.ok (.slice (some A) k (cap-a)) W)/\(0<k->A=⟨b,off+a,none⟩):=by
 subst hl hh
 by_cases hc:cap=a
 ·refine⟨⟨b,off,none⟩,λW=> ?_,λh=>by omega⟩
  have hk:k=0:=by omega
  have:=run_slice_lh (P:=Tryz.prog) W 29 (some ⟨b,off,none⟩) n cap Tryz.underlying29 .i64 .i64 (a:Int) ((a+k:Nat):Int) (by omega) (by omega) (by omega)
  rw[this,J8]
  simp[sliced,Result.andThen,hk,hc]
 ·refine⟨⟨b,off+a,none⟩,λW=> ?_,λ_=>rfl⟩
  have:=run_slice_lh (P:=Tryz.prog) W 29 (some ⟨b,off,none⟩) n cap Tryz.underlying29 .i64 .i64 (a:Int) ((a+k:Nat):Int) (by omega) (by omega) (by omega)
  rw[this,J8]
  simp[sliced,Result.andThen,hc,Addr.add]
  omega
theorem Ac(u v0:Value)(zs:List Int)(os:List Ob)(w:World)(hu:aN w u zs)(hz:Small zs)(ho:bT w v0 os)(ht:OL os)(hl:zs.length<1000000)(hm:os.length<1000000):
  Calls Tryz.prog 15 #[u,v0] w λe w'=>e=.returned (.tuple #[.string (uU zs os).1,.int .i64 (uU zs os).2])/\Below w.heap.size w w':=by
 obtain⟨ad,b,off,cap,rfl,⟨h1,h2⟩,h3,⟨h4,h4'⟩,h5,h6⟩:=hu
 have QN:Hid (Calls Tryz.prog 43 #[.slice ad zs.length cap,v0] w λe w'=>xu w.heap.size (dY zs.length os []) e w'/\Below w.heap.size w w'):=Lib.hid (PW ad zs.length cap v0 os w (by omega) ho)
 obtain⟨oa,ob,oo,oc,rfl,⟨o1,o2⟩,o3,⟨o4,o4'⟩,o5,o6⟩:=ho
 have HZ:=Lib.hid hz
 have HZM:Hid (∀x∈zs,0<=x/\x<18446744073709551616):=jW hz
 have HT:=Lib.hid ht
 have H1:=Lib.hid h1
 have H2:=Lib.hid h2
 have H6:=Lib.hid h6
 have EU:=Lib.hid o1
 have XJ:=Lib.hid o6
 have HR:Hid (uU zs os=if(dY zs.length os []).isNone then(⟨#[]⟩,1)else if os.all (mG zs)then(⟨(uP os.length++os.flatMap (gy zs)).toArray⟩,0)else(⟨#[]⟩,3)):=rfl
 generalize uU zs os=R at*
 clear h1 h2 h6 hz ht o1 o2 o6
 rcases hK:dY zs.length os []with _|ks
 ·have HR1:Hid (R=(⟨#[]⟩,1)):=by show _=_;rw[HR.out,hK];rfl
  rw[hK]at QN
  clear hK HR
  generalize zs.length=n at*
  generalize os.length=m at*
  go_enter Tryz.func15,Tryz.ntmps15
  go_wp2_with fail
  refine QN.out.mono ?_;rintro e w1 ⟨hk,k1⟩
  have hk:e=.returned (.tuple #[.slice none 0 0,.int .i64 1]):=hk
  subst hk
  go_wp2_with fail
  go_ret2
  exact⟨by rw[HR1.out];rfl,k1⟩
 ·have Eo:=Lib.hid (BF hK)
  have HR1:Hid (R=if os.all (mG zs)then(⟨(uP os.length++os.flatMap (gy zs)).toArray⟩,0)else(⟨#[]⟩,3)):=by show _=_;rw[HR.out,hK];rfl
  rw[hK]at QN
  clear hK HR
  generalize hnn:zs.length=n at*
  have Ak:=Lib.hid hnn
  generalize hmm:os.length=m at*
  have Zd:=Lib.hid hmm
  clear hnn hmm
  have HP:Hid (∀W,Calls Tryz.prog 45 #[.int .u64 (m:Nat)] W λe w'=>e=.returned (.string (aG (aW m)))/\Below W.heap.size W w'):=Lib.hid λW=>put_any m W (by omega)
  go_enter Tryz.func15,Tryz.ntmps15
  go_wp2_with fail
  refine QN.out.mono ?_;rintro e w1 ⟨hk,k1⟩
  obtain⟨kv,rfl,hk2⟩:∃v,e=.returned (.tuple #[v,.int .i64 0])/\dH w1 w.heap.size v ks:=hk
  have HB0:Hid (xY w1.heap.size w1.heap.size [] (w1.alloc (.cells #[.pointer none,.slice none 0 0] 93))):=xY.fresh w1
  have hb0:Hid (Below w.heap.size w (w1.alloc (.cells #[.pointer none,.slice none 0 0] 93))):=Lib.hid (by exact bm)
  have Fb:=k1.size
  clear hk2 QN
  go_wp2_with fail
  refine(HP.out _).mono ?_;rintro e w2 ⟨rfl,k2⟩
  have HB2:=Lib.hid (HB0.out.tr k2)
  have hb2:Hid (Below w.heap.size w w2):=Lib.hid (by have:=hb0.out;exact bm)
  have hBs:w1.heap.size<w2.heap.size:=Nat.lt_of_lt_of_le (by simp) k2.size
  have hsz:(aG (aW m)).size<=10:=by
   rw[aF]
   exact aX (by omega)
  have HU:Hid ((aG (aW m)).data.toList=uP m):=rfl
  clear k1 k2 HB0 hb0 HP
  generalize w1.heap.size=B at*
  go_wp2_with fail
  refine(write_any B B [] (aG (aW m)) _ HB2.out (by simp;omega) (Nat.le_of_lt hBs)).mono ?_;rintro e w3 ⟨rfl,hB3,k3⟩
  have HB3:Hid (xY B B (uP m) w3):=hB3
  have hb3:Hid (Below w.heap.size w w3):=hb2.out.trans (k3.mono Fb)
  have adz:B<w3.heap.size:=Nat.lt_of_lt_of_le hBs k3.size
  have YM:(uP m).length<=10:=(Il (by omega)).1
  clear hB3 k3 HB2 hb2 hBs HU hsz
  go_wp2_with fail
  go_loopw [31] (λi wr=>∃k:Nat,k<=m/\i=.int .i64 k/\Hid (∀j,j<k->mG zs (dL os j)=true)/\Hid (xY B B (uP m++(os.take k).flatMap (gy zs)) wr)/\(uP m++(os.take k).flatMap (gy zs)).length<=10+5000*k/\B<wr.heap.size/\Hid (Below w.heap.size w wr)) (λi _=>m-(intOf i).toNat)
  case atStart=>
   refine⟨0,Nat.zero_le _,rfl,λj hj=>absurd hj (Nat.not_lt_zero _),?_,?_,adz,hb3.out⟩
   ·show xY _ _ _ _
    simp only[List.take_zero,List.flatMap_nil,List.append_nil]
    exact HB3.out
   ·simp
    omega
  case round=>
   obtain⟨k,hk,rfl,hok,hB,hdl,hBs,hb⟩:=hrel
   clear HB3 hb3 adz
   have hws:=hb.out.size
   by_cases hlk:k<m
   ·obtain rfl:=EU.out (by omega)
    have hkl:k<os.length:=by have:=Zd.out;omega
    have hxk:=(XJ.out.block (hb.out.block ob o5)).at k hlk
    obtain⟨f0,f1,f2,f3,f4,f5⟩:=Eo.out _ (kQ hkl)
    obtain⟨t1,t2⟩:=HT.out _ (kQ hkl)
    have HS:=Lib.hid (yU zs os k hkl)
    have HOL:Hid ((gy zs (dL os k)).length<=5000):=Lib.hid (J7 HZM.out (by have:=Eo.out _ (kQ hkl);have h:=Ak.out;rw[h];exact this) ⟨t1,t2⟩)
    have FV:Hid (mG zs (dL os k)=true->∀j,j<k+1->mG zs (dL os j)=true):=λe j hj=>by
     rcases Nat.lt_or_ge j k with h|h
     ·exact hok.out j h
     ·obtain rfl:j=k:=by omega
      exact e
    have Ld:Hid (mG zs (dL os k)=false->R=(⟨#[]⟩,3)):=λe=>by
     rw[HR1.out,if_neg]
     intro e2
     rw[List.all_eq_true.1 e2 _ (kQ hkl)]at e
     cases e
    clear hok
    generalize dL os k=o at*
    generalize(os.take k).flatMap (gy zs)=Ze at*
    obtain⟨p0,sz,pp,g,t⟩:=o
    obtain⟨x0,x1,x2,x3,x4⟩:=hxk
    dsimp only at x0 x1 x2 x3 x4 f0 f1 f2 f3 f4 f5 t1 t2
    obtain⟨P0,rfl⟩:=Int.eq_ofNat_of_zero_le f0
    obtain⟨S,rfl⟩:=Int.eq_ofNat_of_zero_le f1
    obtain⟨PP,rfl⟩:=Int.eq_ofNat_of_zero_le f3
    obtain⟨T,rfl⟩:=Int.eq_ofNat_of_zero_le t1
    rcases g with _|_
    ·obtain rfl:=H1.out (by omega)
     have j1:¬(P0:Int)+1<0:=by omega
     have j2:(P0:Int)+1<=(P0:Int)+1+PP:=by omega
     have j3:(P0:Int)+1+PP<=cap:=by omega
     obtain⟨A1,hs1,ha1⟩:=xQ b off n cap (P0+1) PP (by omega) ((P0:Int)+1) ((P0:Int)+1+PP) (by omega) (by omega)
     obtain⟨A2,hs2,ha2⟩:=xQ b off n cap (P0+1+PP) (S-PP) (by omega) ((P0:Int)+1+PP) ((P0:Int)+1+S) (by omega) (by omega)
     have HNa:Hid (aN w (.slice (some A1) PP (cap-(P0+1))) (sub zs (P0+1) PP)):=Aa (b:=b) (off:=off) (by rw[Ak.out];exact H6.out) h5 (by rw[Ak.out];exact h4') (by rw[Ak.out];exact h3) h4 (by rw[Ak.out];omega) (λh=>by rw[ha1 h]) (λe=>by cases e)
     have HNb:Hid (aN w (.slice (some A2) (S-PP) (cap-(P0+1+PP))) (sub zs (P0+1+PP) (S-PP))):=Aa (b:=b) (off:=off) (by rw[Ak.out];exact H6.out) h5 (by rw[Ak.out];exact h4') (by rw[Ak.out];exact h3) h4 (by rw[Ak.out];omega) (λh=>by rw[ha2 h]) (λe=>by cases e)
     have hla:(sub zs (P0+1) PP).length=PP:=nS (by rw[Ak.out];omega)
     have hlb:(sub zs (P0+1+PP) (S-PP)).length=S-PP:=nS (by rw[Ak.out];omega)
     have HZa:=Lib.hid (lD HZ.out (P0+1) PP)
     have HZb:=Lib.hid (lD HZ.out (P0+1+PP) (S-PP))
     have Rt:Hid (∀W,Below w.heap.size w W->Calls Tryz.prog 17 #[.slice (some A1) PP (cap-(P0+1))] W λe w'=>e=.returned (.tuple #[.string (jO (sub zs (P0+1) PP)).1,.int .i64 (jO (sub zs (P0+1) PP)).2])/\Below W.heap.size W w'):=Lib.hid λW hb=>wK _ _ W (HNa.out.tr hb) HZa.out (by omega)
     have HWp:Hid (∀W,Below w.heap.size w W->Calls Tryz.prog 47 #[.slice (some A2) (S-PP) (cap-(P0+1+PP))] W λe w'=>e=.returned (.string (aG (eP (sub zs (P0+1+PP) (S-PP)))))/\Below W.heap.size W w'):=Lib.hid λW hb=>VE _ _ W (HNb.out.tr hb) HZb.out (by omega)
     have hrl:=nH (sub zs (P0+1) PP) (jW HZa.out)
     have hwl:(aG (eP (sub zs (P0+1+PP) (S-PP)))).size<=2040:=by
      rw[aF,nG]
      omega
     have hRl:(aG (bQ [0,S,PP])).size<=30:=by
      rw[aF]
      have h1:=aX (v:=0) (by omega)
      have h2:=aX (v:=S) (by omega)
      have h3:=aX (v:=PP) (by omega)
      simp[bQ]
      omega
     have HOU:Hid (gy zs ⟨(P0:Int),(S:Int),(PP:Int),false,(T:Int)⟩=(aG (bQ [0,S,PP])).data.toList++bn (sub zs (P0+1) PP)++(aG (eP (sub zs (P0+1+PP) (S-PP)))).data.toList):=rfl
     have Bj:Hid (mG zs ⟨(P0:Int),(S:Int),(PP:Int),false,(T:Int)⟩=(sub zs (P0+1) PP).all eU):=by
      show(false||_)=_
      rw[Bool.false_or]
      rfl
     clear HNa HNb HZa HZb ha1 ha2 hlb
     generalize sub zs (P0+1+PP) (S-PP)=zb at*
     generalize sub zs (P0+1) PP=za at*
     rcases hall:za.all eU with _|_
     ·have HRR:Hid (jO za=(⟨#[]⟩,3)):=if_neg (by rw[hall];decide)
      have HR3:=Lib.hid (Ld.out (Bj.out.trans hall))
      rw[HRR.out]at Rt
      have hKb:Hid (Below w.heap.size w (wr.alloc (.cells #[.int .i64 P0,.int .i64 S,.int .i64 PP,.bool false,.int .u64 T] 58))):=Lib.hid (by have:=hb.out;exact bm)
      clear FV Ld HS HOU Bj hall
      go_wp2_with fail
      refine(Rt.out _ hKb.out).mono ?_;rintro e w4 ⟨rfl,k4⟩
      go_wp2_with fail
      go_ret2
      exact⟨by rw[HR3.out];rfl,au hKb.out k4⟩
     ·have HRR:Hid (jO za=(⟨(bn za).toArray⟩,0)):=if_pos hall
      have Ns:=Lib.hid (FV.out (Bj.out.trans hall))
      rw[HRR.out]at Rt
      have hKb:Hid (Below w.heap.size w (wr.alloc (.cells #[.int .i64 P0,.int .i64 S,.int .i64 PP,.bool false,.int .u64 T] 58))):=Lib.hid (by have:=hb.out;exact bm)
      have Ko:=aj.new wr #[.int .i64 P0,.int .i64 S,.int .i64 PP,.bool false,.int .u64 T] 58
      have HB4:=Lib.hid (hB.out.tr ((Below.refl _ _).alloc (Nat.le_refl _) (.cells #[.int .i64 P0,.int .i64 S,.int .i64 PP,.bool false,.int .u64 T] 58)))
      clear FV Ld Bj hall
      go_wp2_with fail
      refine(Rt.out _ hKb.out).mono ?_;rintro e w4 ⟨rfl,k4⟩
      have hb4:=Lib.hid (au hKb.out k4)
      have SE:=Lib.hid (HB4.out.tr k4)
      have Ko4:=Ko.tr k4
      have adD:B<w4.heap.size:=Nat.lt_of_lt_of_le hBs (Nat.le_trans (by simp) k4.size)
      clear k4 hKb HB4 Ko Rt
      obtain⟨lo,co,fo⟩:=Ko4.get
      go_wp2_with fail
      have K6:aj (w4.alloc (.cells #[.int .u64 (0:Nat),.int .u64 S,.int .u64 PP] 24)) w4.heap.size #[.int .u64 (0:Nat),.int .u64 S,.int .u64 PP] 24:=aj.new _ _ _
      refine(VG 0 S PP _ w4.heap.size K6 (by omega) (by omega) (by omega)).mono ?_;rintro e w5 ⟨rfl,k5⟩
      have hno:wr.heap.size≠B:=by omega
      have y9:=Lib.hid ((SE.out.tr ((Below.refl _ _).alloc (Nat.le_refl _) (.cells #[.int .u64 (0:Nat),.int .u64 S,.int .u64 PP] 24))).tr k5)
      have Ko5:=(Ko4.alloc (.cells #[.int .u64 (0:Nat),.int .u64 S,.int .u64 PP] 24)).tr k5
      have hb5:Hid (Below w.heap.size w w5):=Lib.hid (by have:=hb4.out;exact bm)
      have Ru:B<w5.heap.size:=Nat.lt_of_lt_of_le adD (Nat.le_trans (by simp) k5.size)
      clear k5 lo co fo Ko4 K6 SE hb4 adD
      generalize hU0:uP m++Ze=D0 at*
      go_wp2_with fail
      refine(uI B B D0 (aG (bQ [0,S,PP])) _ y9.out (by omega) (Nat.le_of_lt Ru)).mono ?_;rintro e w6 ⟨rfl,hB7,k6,ok6⟩
      have HB7:=Lib.hid hB7
      have Ko6:=VH Ko5 ok6 hno (by decide)
      have hb6:Hid (Below w.heap.size w w6):=hb5.out.trans (k6.mono Fb)
      have aaP:B<w6.heap.size:=Nat.lt_of_lt_of_le Ru k6.size
      have hD1:(D0++(aG (bQ [0,S,PP])).data.toList).length<=40+5000*k:=by
       have hq:(aG (bQ [0,S,PP])).data.toList.length=(aG (bQ [0,S,PP])).size:=Array.length_toList
       rw[List.length_append,hq]
       omega
      clear hB7 k6 ok6 Ko5 y9 hb5 Ru
      generalize hU1:D0++(aG (bQ [0,S,PP])).data.toList=D1 at*
      go_wp2_with fail
      have hRS:(⟨(bn za).toArray⟩:ByteArray).size=(bn za).length:=by simp[ByteArray.size]
      refine(uI B B D1 ⟨(bn za).toArray⟩ _ HB7.out (by rw[hRS];omega) (Nat.le_of_lt aaP)).mono ?_;rintro e w7 ⟨rfl,hB8,k7,ok7⟩
      have WO:Hid (xY B B (D1++bn za) w7):=Lib.hid (by simpa using hB8)
      have Ko7:=VH Ko6 ok7 hno (by decide)
      have hb7:Hid (Below w.heap.size w w7):=hb6.out.trans (k7.mono Fb)
      have adG:B<w7.heap.size:=Nat.lt_of_lt_of_le aaP k7.size
      have hD2:(D1++bn za).length<=2600+5000*k:=by
       rw[List.length_append]
       omega
      clear hB8 k7 ok7 Ko6 HB7 hb6 aaP
      generalize hU2:D1++bn za=D2 at*
      obtain⟨lo,co,fo⟩:=Ko7.get
      go_wp2_with fail
      refine(HWp.out _ hb7.out).mono ?_;rintro e w8 ⟨rfl,k8⟩
      have HB9:=Lib.hid (WO.out.tr k8)
      have hb8:Hid (Below w.heap.size w w8):=Lib.hid (au hb7.out k8)
      have adH:B<w8.heap.size:=Nat.lt_of_lt_of_le adG k8.size
      clear k8 WO hb7 adG lo co fo Ko7
      go_wp2_with fail
      refine(uI B B D2 (aG (eP zb)) _ HB9.out (by omega) (Nat.le_of_lt adH)).mono ?_;rintro e w9 ⟨rfl,adI,k9,ok9⟩
      have HE:Hid (uP m++(os.take (k+1)).flatMap (gy zs)=D2++(aG (eP zb)).data.toList):=by
       show _=_
       rw[HS.out,HOU.out,<-hU2,<-hU1,<-hU0]
       simp[List.append_assoc]
      have aaQ:Hid (xY B B (uP m++(os.take (k+1)).flatMap (gy zs)) w9):=by
       show xY _ _ _ _
       rw[HE.out]
       exact adI
      have hb9:Hid (Below w.heap.size w w9):=hb8.out.trans (k9.mono Fb)
      have aaS:B<w9.heap.size:=Nat.lt_of_lt_of_le adH k9.size
      have hD3:Hid ((uP m++(os.take (k+1)).flatMap (gy zs)).length<=10+5000*(k+1)):=by
       show _<=_
       have hq:(aG (eP zb)).data.toList.length=(aG (eP zb)).size:=Array.length_toList
       rw[HE.out,List.length_append,hq]
       omega
      clear adI k9 ok9 HB9 hb8 HE
      go_wp2_with fail
      exact⟨⟨k+1,by omega,by go_num,Ns.out,aaQ.out,hD3.out,aaS,hb9.out⟩,by simp[intOf];omega⟩
    ·have hUl:(aG (bQ [1,T])).size<=20:=by
      rw[aF]
      have h1:=aX (v:=1) (by omega)
      have h2:=aX (v:=T) (by omega)
      simp[bQ]
      omega
     have HOU:Hid (gy zs ⟨(P0:Int),(S:Int),(PP:Int),true,(T:Int)⟩=(aG (bQ [1,T])).data.toList):=rfl
     have Ns:=Lib.hid (FV.out rfl)
     have HB4:=Lib.hid ((hB.out.tr ((Below.refl _ _).alloc (Nat.le_refl _) (.cells #[.int .i64 P0,.int .i64 S,.int .i64 PP,.bool true,.int .u64 T] 58))).tr ((Below.refl _ _).alloc (Nat.le_refl _) (.cells #[.int .u64 (1:Nat),.int .u64 T] 24)))
     have hb4:Hid (Below w.heap.size w ((wr.alloc (.cells #[.int .i64 P0,.int .i64 S,.int .i64 PP,.bool true,.int .u64 T] 58)).alloc (.cells #[.int .u64 (1:Nat),.int .u64 T] 24))):=Lib.hid (by have:=hb.out;exact bm)
     have K6:aj ((wr.alloc (.cells #[.int .i64 P0,.int .i64 S,.int .i64 PP,.bool true,.int .u64 T] 58)).alloc (.cells #[.int .u64 (1:Nat),.int .u64 T] 24)) (wr.heap.size+1) #[.int .u64 (1:Nat),.int .u64 T] 24:=aj.mk (by simp)
     clear FV Ld
     go_wp2_with fail
     refine(VF 1 T _ (wr.heap.size+1) K6 (by omega) (by omega)).mono ?_;rintro e w5 ⟨rfl,k5⟩
     have y9:=Lib.hid (HB4.out.tr k5)
     have hb5:Hid (Below w.heap.size w w5):=Lib.hid (au hb4.out k5)
     have Ru:B<w5.heap.size:=Nat.lt_of_lt_of_le hBs (Nat.le_trans (by simp) k5.size)
     clear k5 K6 HB4 hb4
     generalize hU0:uP m++Ze=D0 at*
     go_wp2_with fail
     refine(uI B B D0 (aG (bQ [1,T])) _ y9.out (by omega) (Nat.le_of_lt Ru)).mono ?_;rintro e w6 ⟨rfl,hB7,k6,ok6⟩
     have HE:Hid (uP m++(os.take (k+1)).flatMap (gy zs)=D0++(aG (bQ [1,T])).data.toList):=by
      show _=_
      rw[HS.out,HOU.out,<-hU0]
      simp[List.append_assoc]
     have aaQ:Hid (xY B B (uP m++(os.take (k+1)).flatMap (gy zs)) w6):=by
      show xY _ _ _ _
      rw[HE.out]
      exact hB7
     have hb9:Hid (Below w.heap.size w w6):=hb5.out.trans (k6.mono Fb)
     have aaS:B<w6.heap.size:=Nat.lt_of_lt_of_le Ru k6.size
     have hD3:Hid ((uP m++(os.take (k+1)).flatMap (gy zs)).length<=10+5000*(k+1)):=by
      show _<=_
      have hq:(aG (bQ [1,T])).data.toList.length=(aG (bQ [1,T])).size:=Array.length_toList
      rw[HE.out,List.length_append,hq]
      omega
     clear hB7 k6 ok6 y9 hb5 HE
     go_wp2_with fail
     exact⟨⟨k+1,by omega,by go_num,Ns.out,aaQ.out,hD3.out,aaS,hb9.out⟩,by simp[intOf];omega⟩
   ·obtain rfl:k=m:=by omega
    have hok2:os.take k=os:=List.take_of_length_le (by have:=Zd.out;omega)
    rw[hok2]at hB
    have HR2:Hid (R=(⟨(uP k++os.flatMap (gy zs)).toArray⟩,0)):=HR1.out.trans (if_pos (List.all_eq_true.2 λx hx=>by
     obtain⟨i,hi,rfl⟩:=List.mem_iff_getElem.1 hx
     have h3:=hok.out i (by have:=Zd.out;omega)
     have h4:dL os i=os[i]:=by simp[dL,List.getD,hi]
     rw[h4]at h3
     exact h3))
    clear hok hdl hok2
    go_wp2_with fail
    refine(yR B B (uP k++os.flatMap (gy zs)) _ hB.out (Nat.le_of_lt hBs)).mono ?_;rintro e' w5 ⟨rfl,hB1,k5⟩
    have hb1:Hid (Below w.heap.size w w5):=hb.out.trans (k5.mono Fb)
    clear hB1 k5 hB hb
    go_wp2_with fail
    go_ret2
    exact⟨by rw[HR2.out];rfl,hb1.out⟩
end Go.Proofs.YtpgjploaliefdaaGreat.im
namespace Go.Proofs.YtpgjploaliefdaaGreat.im
open Go Go.RowKit hp ob hd cp
open fr (aG aW bQ eH)
set_option linter.unusedVariables false
set_option linter.unusedSimpArgs false
theorem Bl(o:Ob):(nU o).length=1+o.s.toNat:=by simp[nU];omega
theorem Cm{len:Nat}:∀{os:List Ob}{acc:List Int},iD len acc.length os->(dY len os acc).isNone=false
 |[],acc,h=>by
  unfold dY
  rw[if_pos (show acc.length=len from h)]
  rfl
 |o::os,acc,h=>by
  obtain⟨h1,h2,h3,h4⟩:=h
  have hb:¬nK len acc o:=by
   rintro(q|q|q|q)
   ·exact q h1
   ·omega
   ·rw[jS h2]at q
    cases q
   ·omega
  have e:dY len (o::os) acc=dY len os (acc++nU o):=by
   show(if nK len acc o then none else dY len os (acc++nU o))=_
   rw[if_neg hb]
  rw[e]
  refine Cm ?_
  rw[List.length_append,Bl]
  have:acc.length+(1+o.s.toNat)=acc.length+1+o.s.toNat:=by omega
  rw[this]
  exact h4
theorem nI{pf:Int->Option Int}{x a b:Int}(h:aP pf x a b=true):eU x=true:=by
 unfold aP at h
 unfold eU
 rcases e:decide (x=0)with _|_
 ·rw[e,Bool.false_or,Bool.and_eq_true]at h
  rw[h.1]
  rfl
 ·rfl
theorem Df{P:Int->Int->Bool}{zs:List Int}{os:List Ob}(hp:aB P zs os=true)(hP:∀a x,P a x=true->eU x=true)(hf:∀o∈os,lM zs.length o):os.all (mG zs)=true:=by
 rw[List.all_eq_true]
 intro o ho
 unfold aB at hp
 rw[List.all_eq_true]at hp
 have h1:=hp o ho
 unfold mG
 rcases hg:o.g with _|_
 ·rw[hg,Bool.false_or]at h1
  rw[Bool.false_or,List.all_eq_true]
  intro x hx
  obtain⟨i,hi,rfl⟩:=List.mem_iff_getElem.1 hx
  obtain⟨f0,f1,f2,f3,f4,f5⟩:=hf o ho
  have hsl:(sub zs (o.pos.toNat+1) o.p.toNat).length=o.p.toNat:=nS (by omega)
  have h2:∀j,j<o.p.toNat->P (o.pos+1+j) (zs.getD (o.pos.toNat+1+j) 0)=true:=by
   unfold qg at h1
   simpa only[List.all_eq_true,List.mem_range]using h1
  have h3:=hP _ _ (h2 i (by omega))
  have h4:(sub zs (o.pos.toNat+1) o.p.toNat)[i]=zs.getD (o.pos.toNat+1+i) 0:=by
   rw[<-Io (zs:=zs) (a:=o.pos.toNat+1) (n:=o.p.toNat) (i:=i) (by omega)]
   simp[List.getD,hi]
  rw[h4]
  exact h3
 ·rfl
theorem ji{h:Hp}{s:dS}(e:dZ h=some s):aZ h=true/\bW h=true/\cp.Found h s/\iH h s=true/\fM h s=true/\dO h s=true/\leftB h s=true/\kS h s=true:=by
 have step:∀{k:Nat}{t:dS}{b:Bool},(if b then some t else none)=some s->b=true/\t=s:=λ{k t b}h=>by
  rcases b with _|_
  ·cases h
  ·exact⟨rfl,Option.some.inj h⟩
 obtain⟨s7,e7,r7⟩:=gq (k:=7) e
 obtain⟨a8,rfl⟩:=step (k:=0) (show(if kS h s7 then some s7 else none)=some s from r7)
 obtain⟨s6,e6,r6⟩:=gq (k:=6) e7
 obtain⟨a7,rfl⟩:=step (k:=0) (show(if leftB h s6 then some s6 else none)=some s7 from r6)
 obtain⟨s5,e5,r5⟩:=gq (k:=5) e6
 obtain⟨a6,rfl⟩:=step (k:=0) (show(if dO h s5 then some s5 else none)=some s6 from r5)
 obtain⟨s4,e4,r4⟩:=gq (k:=4) e5
 obtain⟨a5,rfl⟩:=step (k:=0) (show(if fM h s4 then some s4 else none)=some s5 from r4)
 obtain⟨s3,e3,r3⟩:=gq (k:=3) e4
 obtain⟨a4,rfl⟩:=step (k:=0) (show(if iH h s3 then some s3 else none)=some s4 from r3)
 obtain⟨s2,e2,r2⟩:=gq (k:=2) e3
 obtain⟨s1,e1,r1⟩:=gq (k:=1) e2
 obtain⟨s0,e0,r0⟩:=gq (k:=0) e1
 have r0:(if aZ h then some s0 else none)=some s1:=r0
 have r1:(if bW h then some s1 else none)=some s2:=r1
 refine⟨?_,?_,vN r2,a4,a5,a6,a7,a8⟩
 ·rcases hb:aZ h with _|_
  ·rw[hb]at r0;cases r0
  ·rfl
 ·rcases hb:bW h with _|_
  ·rw[hb]at r1;cases r1
  ·rfl
def fU(h:Hp)(s:dS)(q:Nat):ByteArray:=⟨(uP (s.obs q).length++(s.obs q).flatMap (gy (h.part q))).toArray⟩
theorem Ip{h:Hp}{s:dS}(e:dZ h=some s)(q:Nat)(hq:1<=q/\q<=4):uU (h.part q) (s.obs q)=(fU h s q,0):=by
 obtain⟨a1,a2,hf,a4,a5,a6,a7,a8⟩:=ji e
 have hc:=hf.chain q hq
 unfold uU
 rw[Cm (acc:=[]) hc]
 have hfit:∀o∈s.obs q,lM (h.part q).length o:=λo ho=>(hc.from o ho).2
 have hall:(s.obs q).all (mG (h.part q))=true:=by
  simp only[fM,leftB,dO,Bool.and_eq_true]at a5 a6 a7
  rcases(show q=1\/q=2\/q=3\/q=4 by omega)with rfl|rfl|rfl|rfl
  ·
   rw[List.all_eq_true]
   intro o ho
   have hboth:aB (λ_ x=>eU x) h.low s.o1=true:=by
    unfold aB at a5 a6⊢
    rw[List.all_eq_true]
    intro c hc'
    have h1:=(List.all_eq_true.1 a5.2.2) c hc'
    have h2:=(List.all_eq_true.1 a6) c hc'
    rcases hg:c.g with _|_
    ·rw[hg,Bool.false_or]at h1 h2
     rw[Bool.false_or]
     unfold qg at h1 h2⊢
     rw[List.all_eq_true]at h1 h2⊢
     intro i hi
     have h3:=h1 i hi
     have h4:=h2 i hi
     rw[Bool.or_eq_true]at h3 h4
     rcases h3 with h5|h5
     ·rcases h4 with h6|h6
      ·have h5:=of_decide_eq_true h5
       have h6:=of_decide_eq_true h6
       omega
      ·exact nI h6
     ·exact nI h5
    ·rfl
   exact List.all_eq_true.1 (Df (zs:=h.low) hboth (λ_ _ h=>h) hfit) o ho
  ·exact Df (zs:=h.high) a5.2.1 (λ_ _ h=>nI h) hfit
  ·exact Df (zs:=h.old) a7.1 (λ_ _ h=>nI h) hfit
  ·exact Df (zs:=h.far) a7.2 (λ_ _ h=>nI h) hfit
 rw[hall]
 rfl
theorem J9{h:Hp}{s:dS}(e:dZ h=some s):h.roots.all eU=true:=by
 obtain⟨a1,a2,hf,a4,a5,a6,a7,a8⟩:=ji e
 simp only[fM,Bool.and_eq_true]at a5
 rw[List.all_eq_true]at a5⊢
 exactλx hx=>nI (a5.1 x hx)
end Go.Proofs.YtpgjploaliefdaaGreat.im
namespace Go.Proofs.YtpgjploaliefdaaGreat.im
open Go Go.RowKit cm cw ga gr hp ob hd cp ck
open fr (aG aW bQ pq put_any aF aX)
set_option linter.unusedVariables false
set_option linter.unusedSimpArgs false
set_option maxRecDepth 100000
set_option maxHeartbeats 4000000
theorem Kq(x1 x2 x3 x4 x5 x6:Nat)(w:World)(b:Nat)(hb:aj w b #[.int .u64 x1,.int .u64 x2,.int .u64 x3,.int .u64 x4,.int .u64 x5,.int .u64 x6] 24)(h1:x1<18446744073709551616)(h2:x2<18446744073709551616)(h3:x3<18446744073709551616)(h4:x4<18446744073709551616)(h5:x5<18446744073709551616)(h6:x6<18446744073709551616):
  Calls Tryz.prog 46 #[.slice (some ⟨b,0,none⟩) 6 6] w λe w'=>e=.returned (.string (aG (bQ [x1,x2,x3,x4,x5,x6])))/\Below w.heap.size w w':=by
 obtain⟨lb,cb,fb⟩:=hb.get
 exact pq b 6 [x1,x2,x3,x4,x5,x6] w (λi hi=>by rcases(show i=0\/i=1\/i=2\/i=3\/i=4\/i=5 by simp at hi;omega)with rfl|rfl|rfl|rfl|rfl|rfl<;>exact cb _) (λi=>by rcases i with _|_|_|_|_|_|i<;>simp[List.getD]<;>omega) (by simp) (by simp)
def jq(h:Hp):List Nat:=[1,h.base.toNat,h.cap.toNat,h.tt.toNat,if h.dJ then 1 else 0,h.scan.toNat]
theorem VI(h:Hp)(v:Hv)(w:World)(hin:kH w h v)(hc0:0<=h.cap)(ht0:0<=h.tt)(hs0:0<=h.scan):
  Calls Tryz.prog 30 #[fD h v] w λe w'=>e=.returned (.string (aG (bQ (jq h))))/\Below w.heap.size w w':=by
 have b1:=hin.base
 have b2:=hin.cap
 have b3:=hin.tt
 have b4:=hin.scan
 have vC:=Lib.hid hin
 obtain⟨la,lc,e1⟩:=ay hin.low
 obtain⟨ha,hc,e2⟩:=ay hin.high
 obtain⟨oa,oc,e3⟩:=ay hin.old
 obtain⟨fa,fc,e4⟩:=ay hin.far
 obtain⟨ra,rc,e5⟩:=ay hin.roots
 clear hin
 obtain⟨vl,vh,vo,vf,vr⟩:=v
 dsimp only at e1 e2 e3 e4 e5
 subst e1 e2 e3 e4 e5
 unfold fD at*
 dsimp only at*
 have HH:Hid (jq h=[1,h.base.toNat,h.cap.toNat,h.tt.toNat,if h.dJ then 1 else 0,h.scan.toNat]):=rfl
 generalize jq h=hn at*
 clear vC
 obtain⟨base,cap,tt,dJ,scan,low,high,old,far,roots⟩:=h
 dsimp only at*
 generalize low.length=nl at*
 generalize high.length=nh at*
 generalize old.length=no at*
 generalize far.length=nf at*
 generalize roots.length=nr at*
 obtain⟨b1,b1'⟩:=b1
 obtain⟨b2,b2'⟩:=b2
 obtain⟨b3,b3'⟩:=b3
 obtain⟨b4,b4'⟩:=b4
 obtain⟨base,rfl⟩:=Int.eq_ofNat_of_zero_le b1
 obtain⟨cap,rfl⟩:=Int.eq_ofNat_of_zero_le hc0
 obtain⟨tt,rfl⟩:=Int.eq_ofNat_of_zero_le ht0
 obtain⟨scan,rfl⟩:=Int.eq_ofNat_of_zero_le hs0
 rcases dJ with _|_
 ·have HH2:Hid (hn=[1,base,cap,tt,0,scan]):=by
   show _=_
   rw[HH.out]
   simp
  clear HH
  have K6:aj ((w.alloc (.cells #[.int .u64 base,.int .i64 cap,.int .i64 tt,.bool false,.int .i64 scan,.slice la nl lc,.slice ha nh hc,.slice oa no oc,.slice fa nf fc,.slice ra nr rc] 32)).alloc (.cells #[.int .u64 (1:Nat),.int .u64 base,.int .u64 cap,.int .u64 tt,.int .u64 (0:Nat),.int .u64 scan] 24)) (w.heap.size+1) #[.int .u64 (1:Nat),.int .u64 base,.int .u64 cap,.int .u64 tt,.int .u64 (0:Nat),.int .u64 scan] 24:=aj.mk (by simp)
  go_enter Tryz.func30,Tryz.ntmps30
  go_wp2_with fail
  refine(Kq 1 base cap tt 0 scan _ (w.heap.size+1) K6 (by omega) (by omega) (by omega) (by omega) (by omega) (by omega)).mono ?_;rintro e w1 ⟨rfl,k1⟩
  go_wp2_with fail
  go_ret
  refine⟨by rw[HH2.out];rfl,?_⟩
  exact bm
 ·have HH2:Hid (hn=[1,base,cap,tt,1,scan]):=by
   show _=_
   rw[HH.out]
   simp
  clear HH
  have K6:aj ((w.alloc (.cells #[.int .u64 base,.int .i64 cap,.int .i64 tt,.bool true,.int .i64 scan,.slice la nl lc,.slice ha nh hc,.slice oa no oc,.slice fa nf fc,.slice ra nr rc] 32)).alloc (.cells #[.int .u64 (1:Nat),.int .u64 base,.int .u64 cap,.int .u64 tt,.int .u64 (1:Nat),.int .u64 scan] 24)) (w.heap.size+1) #[.int .u64 (1:Nat),.int .u64 base,.int .u64 cap,.int .u64 tt,.int .u64 (1:Nat),.int .u64 scan] 24:=aj.mk (by simp)
  go_enter Tryz.func30,Tryz.ntmps30
  go_wp2_with fail
  refine(Kq 1 base cap tt 1 scan _ (w.heap.size+1) K6 (by omega) (by omega) (by omega) (by omega) (by omega) (by omega)).mono ?_;rintro e w1 ⟨rfl,k1⟩
  go_wp2_with fail
  go_ret
  refine⟨by rw[HH2.out];rfl,?_⟩
  exact bm
def mJ(h:Hp):ByteArray:=aG (aW h.roots.length)++⟨(bn h.roots).toArray⟩
theorem Rx(h:Hp)(v:Hv)(w:World)(hin:kH w h v)(hr:h.roots.all eU=true)(hl:h.roots.length<1000000):
  Calls Tryz.prog 32 #[fD h v] w λe w'=>e=.returned (.tuple #[.string (mJ h),.int .i64 0])/\Below w.heap.size w w':=by
 have Rt:Hid (∀W,Below w.heap.size w W->Calls Tryz.prog 17 #[v.r] W λe w'=>e=.returned (.tuple #[.string ⟨(bn h.roots).toArray⟩,.int .i64 0])/\Below W.heap.size W w'):=Lib.hid λW hb=>by
  have:=wK v.r h.roots W (hin.roots.tr hb) hin.jd hl
  rw[show jO h.roots=(⟨(bn h.roots).toArray⟩,0)from if_pos hr]at this
  exact this
 have HP:Hid (∀W,Calls Tryz.prog 45 #[.int .u64 (h.roots.length:Nat)] W λe w'=>e=.returned (.string (aG (aW h.roots.length)))/\Below W.heap.size W w'):=Lib.hid λW=>put_any _ W (by omega)
 have vC:=Lib.hid hin
 obtain⟨la,lc,e1⟩:=ay hin.low
 obtain⟨ha,hc,e2⟩:=ay hin.high
 obtain⟨oa,oc,e3⟩:=ay hin.old
 obtain⟨fa,fc,e4⟩:=ay hin.far
 obtain⟨ra,rc,e5⟩:=ay hin.roots
 clear hin
 obtain⟨vl,vh,vo,vf,vr⟩:=v
 dsimp only at e1 e2 e3 e4 e5
 subst e1 e2 e3 e4 e5
 unfold fD at*
 dsimp only at*
 have HS:Hid (mJ h=aG (aW h.roots.length)++⟨(bn h.roots).toArray⟩):=rfl
 generalize mJ h=R at*
 have hX:(⟨(bn h.roots).toArray⟩:ByteArray).size<=10000000:=by
  have h1:=nH h.roots (jW vC.out.jd)
  have h2:(⟨(bn h.roots).toArray⟩:ByteArray).size=(bn h.roots).length:=by simp[ByteArray.size]
  omega
 have hY:(aG (aW h.roots.length)).size<=10:=by
  rw[aF]
  exact aX (by omega)
 clear vC
 generalize(⟨(bn h.roots).toArray⟩:ByteArray)=X at*
 generalize aG (aW h.roots.length)=Y at*
 have K0:aj (w.alloc (.cells #[.int .u64 h.base,.int .i64 h.cap,.int .i64 h.tt,.bool h.dJ,.int .i64 h.scan,.slice la h.low.length lc,.slice ha h.high.length hc,.slice oa h.old.length oc,.slice fa h.far.length fc,.slice ra h.roots.length rc] 32)) w.heap.size #[.int .u64 h.base,.int .i64 h.cap,.int .i64 h.tt,.bool h.dJ,.int .i64 h.scan,.slice la h.low.length lc,.slice ha h.high.length hc,.slice oa h.old.length oc,.slice fa h.far.length fc,.slice ra h.roots.length rc] 32:=aj.new _ _ _
 go_enter Tryz.func32,Tryz.ntmps32
 go_wp2_with fail
 refine(Rt.out _ (by exact bm)).mono ?_;rintro e w1 ⟨rfl,k1⟩
 have K1:=K0.tr k1
 obtain⟨l1,c1,f1⟩:=K1.get
 clear K0 f1
 go_wp2_with fail
 refine(HP.out _).mono ?_;rintro e w2 ⟨rfl,k2⟩
 go_wp2_with fail
 go_ret2
 refine⟨by rw[HS.out];rfl,?_⟩
 exact bm
end Go.Proofs.YtpgjploaliefdaaGreat.im
