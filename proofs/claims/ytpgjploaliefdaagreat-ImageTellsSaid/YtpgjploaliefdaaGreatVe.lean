/- The document's layer 18: Objects. No conditions. -/
import Derived.Test.YtpgjploaliefdaaGreatVd
import Derived.Test.YtpgjploaliefdaaGreatG21
import Derived.Test.YtpgjploaliefdaaGreatG09
import Derived.Test.YtpgjploaliefdaaGreatTk
namespace Go.Proofs.YtpgjploaliefdaaGreat.im
open Go Go.RowKit cm cw ga gr hp ob hd cp ck
open fr (aG aW bQ sW leB aF aX iI gI)
set_option linter.unusedVariables false
set_option linter.unusedSimpArgs false
set_option maxRecDepth 100000
set_option maxHeartbeats 4000000
theorem nums_cells(w:World)(zs:List Int)(cs:Array Value)(b:Nat)(h:aj w b cs 24)(hc:cs=(zs.map λn:Int=>Value.int .u64 n).toArray)(h0:zs.length<1000)(hp:0<zs.length):aN w (.slice (some ⟨b,0,none⟩) zs.length zs.length) zs:=by
 obtain⟨lb,cb,fb⟩:=h.get
 refine⟨some ⟨b,0,none⟩,b,0,zs.length,rfl,⟨λ_=>rfl,λe=>by cases e⟩,Nat.le_refl _,by omega,lb,jH λi hi=> ?_⟩
 rw[Nat.zero_add,cb,hc]
 simp[List.getD,hi]
theorem wL{zs:List Int}(h:∀z∈zs,0<=z/\z<18446744073709551616):Small zs:=λi=>by
 simp only[List.getD]
 by_cases hi:i<zs.length
 ·rw[List.getElem?_eq_getElem hi]
  exact h _ (List.getElem_mem hi)
 ·rw[List.getElem?_eq_none (by omega)]
  exact⟨by decide,by decide⟩
theorem aaT(x:Nat)(w:World)(b:Nat)(hb:aj w b #[.int .u64 1,.int .u64 x] 24)(hx:x<18446744073709551616):
  Calls Tryz.prog 50 #[.slice (some ⟨b,0,none⟩) 2 2] w λe w'=>e=.returned (.string (aG (bQ [1,x])))/\Below w.heap.size w w':=
 EF _ [1,(x:Int)] w (nums_cells w [1,(x:Int)] _ b hb rfl (by simp) (by simp)) (wL λz hz=>by
  simp only[List.mem_cons,List.not_mem_nil,or_false]at hz
  rcases hz with rfl|rfl<;>omega) (by simp)
theorem aaU(x y:Nat)(w:World)(b:Nat)(hb:aj w b #[.int .u64 0,.int .u64 x,.int .u64 y] 24)(hx:x<18446744073709551616)(hy:y<18446744073709551616):
  Calls Tryz.prog 50 #[.slice (some ⟨b,0,none⟩) 3 3] w λe w'=>e=.returned (.string (aG (bQ [0,x,y])))/\Below w.heap.size w w':=
 EF _ [0,(x:Int),(y:Int)] w (nums_cells w [0,(x:Int),(y:Int)] _ b hb rfl (by simp) (by simp)) (wL λz hz=>by
  simp only[List.mem_cons,List.not_mem_nil,or_false]at hz
  rcases hz with rfl|rfl|rfl<;>omega) (by simp)
theorem EG(u v0:Value)(zs:List Int)(os:List Ob)(w:World)(hu:aN w u zs)(hz:Small zs)(ho:bT w v0 os)(ht:OL os)(hl:zs.length<1000000)(hm:os.length<100000):
  Calls Tryz.prog 16 #[u,v0] w λe w'=>e=.returned (.tuple #[.string (uU zs os).1,.int .i64 (uU zs os).2])/\Below w.heap.size w w':=by
 obtain⟨ad,b,off,cap,rfl,⟨h1,h2⟩,h3,⟨h4,h4'⟩,h5,h6⟩:=hu
 have QN:Hid (Calls Tryz.prog 49 #[.slice ad zs.length cap,v0] w λe w'=>xu w.heap.size (dY zs.length os []) e w'/\Below w.heap.size w w'):=Lib.hid (by
  rw[<-Gf]
  exact Hz ad zs.length cap v0 os w (by omega) ho (by omega))
 obtain⟨oa,ob,oo,oc,rfl,⟨o1,o2⟩,o3,⟨o4,o4'⟩,o5,o6⟩:=ho
 have HZ:=Lib.hid hz
 have HZM:Hid (∀x∈zs,0<=x/\x<18446744073709551616):=jW hz
 have HT:=Lib.hid ht
 have H1:=Lib.hid h1
 have H6:=Lib.hid h6
 have EU:=Lib.hid o1
 have XJ:=Lib.hid o6
 have HR:Hid (uU zs os=if(dY zs.length os []).isNone then(⟨#[]⟩,1)else if os.all (mG zs)then(⟨(uP os.length++os.flatMap (gy zs)).toArray⟩,0)else(⟨#[]⟩,3)):=rfl
 generalize uU zs os=R at*
 clear h1 h2 h6 hz ht o1 o2 o6
 rcases hK:dY zs.length os []with _|ks
 ·have HR1:Hid (R=(⟨#[]⟩,1)):=by show _=_;rw[HR.out,hK];rfl
  rw[hK]at QN
  clear hK HR
  generalize zs.length=n at*
  generalize os.length=m at*
  go_enter Tryz.func16,Tryz.ntmps16
  go_wp2_with fail
  refine QN.out.mono ?_;rintro e w1 ⟨hk,k1⟩
  have hk:e=.returned (.tuple #[.slice none 0 0,.int .i64 1]):=hk
  subst hk
  go_wp2_with fail
  go_ret2
  exact⟨by rw[HR1.out];rfl,k1⟩
 ·have Eo:=Lib.hid (BF hK)
  have HR1:Hid (R=if os.all (mG zs)then(⟨(uP os.length++os.flatMap (gy zs)).toArray⟩,0)else(⟨#[]⟩,3)):=by show _=_;rw[HR.out,hK];rfl
  rw[hK]at QN
  clear hK HR
  have VK:Hid (∀k,(⟨(uP os.length++(os.take k).flatMap (gy zs)).toArray⟩:ByteArray).size<=1000000000):=Lib.hid λk=>by
   show((uP os.length++(os.take k).flatMap (gy zs)).toArray).size<=_
   rw[List.size_toArray,List.length_append]
   have h1:=(Il (n:=os.length) (by omega)).1
   have h2:∀l:List Ob,(∀o∈l,o∈os)->(l.flatMap (gy zs)).length<=5000*l.length:=by
    intro l
    induction l with
    |nil=>intro _;simp
    |cons a l ih=>
     intro hm
     have ha:=J7 HZM.out (Eo.out a (hm a (by simp))) (HT.out a (hm a (by simp)))
     have:=ih λo h=>hm o (List.mem_cons_of_mem _ h)
     rw[List.flatMap_cons,List.length_append,List.length_cons]
     omega
   have:=h2 (os.take k) λo h=>List.mem_of_mem_take h
   rw[List.length_take]at this
   omega
  have HGO:Hid (∀k,k<os.length->(dL os k).g=true->(⟨(uP os.length++(os.take (k+1)).flatMap (gy zs)).toArray⟩:ByteArray)=⟨(uP os.length++(os.take k).flatMap (gy zs)).toArray⟩++aG (bQ [1,(dL os k).t.toNat])):=Lib.hid λk hk hg=>by
   rw[Gt,yU zs os k hk]
   unfold gy uRow
   rw[if_pos hg,List.append_assoc]
  have Le:Hid (∀k,k<os.length->(dL os k).g=false->(⟨(uP os.length++(os.take (k+1)).flatMap (gy zs)).toArray⟩:ByteArray)=((⟨(uP os.length++(os.take k).flatMap (gy zs)).toArray⟩++aG (bQ [0,(dL os k).s.toNat,(dL os k).p.toNat]))++⟨(bn (sub zs ((dL os k).pos.toNat+1) (dL os k).p.toNat)).toArray⟩)++aG (eP (sub zs ((dL os k).pos.toNat+1+(dL os k).p.toNat) ((dL os k).s.toNat-(dL os k).p.toNat)))):=Lib.hid λk hk hg=>by
   have e:gy zs (dL os k)=(aG (bQ [0,(dL os k).s.toNat,(dL os k).p.toNat])).data.toList++bn (sub zs ((dL os k).pos.toNat+1) (dL os k).p.toNat)++(aG (eP (sub zs ((dL os k).pos.toNat+1+(dL os k).p.toNat) ((dL os k).s.toNat-(dL os k).p.toNat)))).data.toList:=by
    unfold gy uRow BD
    rw[if_neg (by rw[hg];decide)]
   rw[yU zs os k hk,e]
   apply ByteArray.ext
   apply Array.toList_inj.1
   simp[List.append_assoc]
  have H0:Hid (aG (aW os.length)=(⟨(uP os.length++(os.take 0).flatMap (gy zs)).toArray⟩:ByteArray)):=Lib.hid (by
   apply ByteArray.ext
   apply Array.toList_inj.1
   simp[uP])
  have adK:Hid ((⟨(uP os.length++(os.take os.length).flatMap (gy zs)).toArray⟩:ByteArray)=⟨(uP os.length++os.flatMap (gy zs)).toArray⟩):=Lib.hid (by rw[List.take_length])
  generalize hA:(λk=>(⟨(uP os.length++(os.take k).flatMap (gy zs)).toArray⟩:ByteArray))=A at*
  have eA:∀k,(⟨(uP os.length++(os.take k).flatMap (gy zs)).toArray⟩:ByteArray)=A k:=λk=>by rw[<-hA]
  simp only[eA]at VK HGO Le H0 adK
  clear eA hA
  generalize hnn:zs.length=n at*
  have Ak:=Lib.hid hnn
  generalize hmm:os.length=m at*
  have Zd:=Lib.hid hmm
  clear hnn hmm
  have HP:Hid (∀W,Calls Tryz.prog 36 #[.int .u64 (m:Nat)] W λe w'=>e=.returned (.string (A 0))/\Below W.heap.size W w'):=Lib.hid λW=>by
   rw[<-H0.out]
   exact fr.wJ m W (by omega)
  clear H0
  go_enter Tryz.func16,Tryz.ntmps16
  go_wp2_with fail
  refine QN.out.mono ?_;rintro e w1 ⟨hk,k1⟩
  obtain⟨kv,rfl,hk2⟩:∃v,e=.returned (.tuple #[v,.int .i64 0])/\dH w1 w.heap.size v ks:=hk
  have hb0:=Lib.hid k1
  clear hk2 QN k1
  go_wp2_with fail
  refine(HP.out _).mono ?_;rintro e w2 ⟨rfl,k2⟩
  have hb2:Hid (Below w.heap.size w w2):=Lib.hid (au hb0.out k2)
  clear k2 hb0 HP
  go_wp2_with fail
  go_loopw [9,8] (λi s wr=>∃k:Nat,k<=m/\i=.int .i64 k/\s=.string (A k)/\Hid (∀j,j<k->mG zs (dL os j)=true)/\Hid (Below w.heap.size w wr)) (λi _ _=>m-(intOf i).toNat)
  case atStart=>exact⟨0,Nat.zero_le _,rfl,rfl,Lib.hid (λj hj=>absurd hj (Nat.not_lt_zero _)),hb2⟩
  case round=>
   obtain⟨k,hk,rfl,rfl,hok,hb⟩:=hrel
   clear hb2
   by_cases hlk:k<m
   ·obtain rfl:=EU.out (by omega)
    have hkl:k<os.length:=by have:=Zd.out;omega
    have hxk:=(XJ.out.block (hb.out.block ob o5)).at k hlk
    obtain⟨f0,f1,f2,f3,f4,f5⟩:=Eo.out _ (kQ hkl)
    obtain⟨t1,t2⟩:=HT.out _ (kQ hkl)
    have HGk:=Lib.hid (HGO.out k (by have:=Zd.out;omega))
    have HHk:=Lib.hid (Le.out k (by have:=Zd.out;omega))
    have hAB:=VK.out k
    have FV:Hid (mG zs (dL os k)=true->∀j,j<k+1->mG zs (dL os j)=true):=λe j hj=>by
     rcases Nat.lt_or_ge j k with h|h
     ·exact hok.out j h
     ·obtain rfl:j=k:=by omega
      exact e
    have Ld:Hid (mG zs (dL os k)=false->R=(⟨#[]⟩,3)):=λe=>by
     rw[HR1.out,if_neg]
     intro e2
     rw[List.all_eq_true.1 e2 _ (kQ hkl)]at e
     cases e
    clear hok
    generalize dL os k=o at*
    generalize A k=AK at*
    obtain⟨p0,sz,pp,g,t⟩:=o
    obtain⟨x0,x1,x2,x3,x4⟩:=hxk
    dsimp only at x0 x1 x2 x3 x4 f0 f1 f2 f3 f4 f5 t1 t2 HGk HHk
    obtain⟨P0,rfl⟩:=Int.eq_ofNat_of_zero_le f0
    obtain⟨S,rfl⟩:=Int.eq_ofNat_of_zero_le f1
    obtain⟨PP,rfl⟩:=Int.eq_ofNat_of_zero_le f3
    obtain⟨T,rfl⟩:=Int.eq_ofNat_of_zero_le t1
    rcases g with _|_
    ·obtain rfl:=H1.out (by omega)
     obtain⟨KP,hKP⟩:∃q,P0+1+PP=q:=⟨_,rfl⟩
     obtain⟨KS,hKS⟩:∃q,P0+1+S=q:=⟨_,rfl⟩
     obtain⟨Iz,hA1⟩:∃q,P0+1=q:=⟨_,rfl⟩
     have w1':IntKind.i64.wrap ((P0:Int)+1)=(Iz:Int):=by rw[IntWalk.i64_in _ (by omega)];omega
     have w2':IntKind.i64.wrap ((Iz:Int)+(PP:Int))=(KP:Int):=by rw[IntWalk.i64_in _ (by omega)];omega
     have w3':IntKind.i64.wrap ((Iz:Int)+(S:Int))=(KS:Int):=by rw[IntWalk.i64_in _ (by omega)];omega
     obtain⟨B1,hs1,ha1⟩:=xQ b off n cap Iz PP (by omega) (Iz:Int) (KP:Int) (by omega) (by omega)
     obtain⟨B2,hs2,ha2⟩:=xQ b off n cap KP (S-PP) (by omega) (KP:Int) (KS:Int) (by omega) (by omega)
     have HNa:Hid (aN w (.slice (some B1) PP (cap-Iz)) (sub zs Iz PP)):=Aa (b:=b) (off:=off) (by rw[Ak.out];exact H6.out) h5 (by rw[Ak.out];exact h4') (by rw[Ak.out];exact h3) h4 (by rw[Ak.out];omega) (λh=>by rw[ha1 h]) (λe=>by cases e)
     have HNb:Hid (aN w (.slice (some B2) (S-PP) (cap-KP)) (sub zs KP (S-PP))):=Aa (b:=b) (off:=off) (by rw[Ak.out];exact H6.out) h5 (by rw[Ak.out];exact h4') (by rw[Ak.out];exact h3) h4 (by rw[Ak.out];omega) (λh=>by rw[ha2 h]) (λe=>by cases e)
     have hla:(sub zs Iz PP).length=PP:=nS (by rw[Ak.out];omega)
     have hlb:(sub zs KP (S-PP)).length=S-PP:=nS (by rw[Ak.out];omega)
     have HZa:=Lib.hid (lD HZ.out Iz PP)
     have HZb:=Lib.hid (lD HZ.out KP (S-PP))
     have Rt:Hid (∀W,Below w.heap.size w W->Calls Tryz.prog 18 #[.slice (some B1) PP (cap-Iz)] W λe w'=>e=.returned (.tuple #[.string (jO (sub zs Iz PP)).1,.int .i64 (jO (sub zs Iz PP)).2])/\Below W.heap.size W w'):=Lib.hid λW hb=>yV _ _ W (HNa.out.tr hb) HZa.out (by omega)
     have HWp:Hid (∀W,Below w.heap.size w W->Calls Tryz.prog 51 #[.slice (some B2) (S-PP) (cap-KP)] W λe w'=>e=.returned (.string (aG (eP (sub zs KP (S-PP)))))/\Below W.heap.size W w'):=Lib.hid λW hb=>RI _ _ W (HNb.out.tr hb) HZb.out (by omega)
     have hwl:(aG (eP (sub zs KP (S-PP)))).size<=2040:=by
      rw[aF,nG]
      omega
     have hrl:=nH (sub zs Iz PP) (jW HZa.out)
     have hRl:(aG (bQ [0,S,PP])).size<=30:=by
      rw[aF]
      have h1:=aX (v:=0) (by omega)
      have h2:=aX (v:=S) (by omega)
      have h3:=aX (v:=PP) (by omega)
      simp[bQ]
      omega
     have HE:Hid (A (k+1)=AK++aG (bQ [0,S,PP])++⟨(bn (sub zs Iz PP)).toArray⟩++aG (eP (sub zs KP (S-PP)))):=Lib.hid (by
      have:=HHk.out rfl
      rw[<-hA1,<-hKP]
      exact this)
     have Bj:Hid (mG zs ⟨(P0:Int),(S:Int),(PP:Int),false,(T:Int)⟩=(sub zs Iz PP).all eU):=by
      rw[<-hA1]
      show(false||_)=_
      rw[Bool.false_or]
      rfl
     have hsP:(bn (sub zs Iz PP)).toArray.size<=2550:=by rw[List.size_toArray];omega
     have hc1:¬(KP:Int)<(Iz:Int):=by omega
     have hc2:(KP:Int)<=(cap:Int):=by omega
     have hc3:¬(KS:Int)<(KP:Int):=by omega
     have hc4:(KS:Int)<=(cap:Int):=by omega
     have HKK:=Lib.hid (And.intro hKP (And.intro hKS hA1))
     have hKb:Hid (Below w.heap.size w (wr.alloc (.cells #[.int .i64 P0,.int .i64 S,.int .i64 PP,.bool false,.int .u64 T] 58))):=Lib.hid (by have:=hb.out;exact bm)
     have Ko:=aj.new wr #[.int .i64 P0,.int .i64 S,.int .i64 PP,.bool false,.int .u64 T] 58
     clear HNa HNb HZa HZb ha1 ha2 hlb HGk HHk hKP hKS hA1 hrl
     generalize sub zs KP (S-PP)=zb at*
     generalize sub zs Iz PP=za at*
     rcases hall:za.all eU with _|_
     ·have HRR:Hid (jO za=(⟨#[]⟩,3)):=if_neg (by rw[hall];decide)
      have HR3:=Lib.hid (Ld.out (Bj.out.trans hall))
      rw[HRR.out]at Rt
      clear FV Ld Bj hall
      go_wp2_with fail
      refine(Rt.out _ hKb.out).mono ?_;rintro e w4 ⟨rfl,k4⟩
      go_wp2_with fail
      go_ret2
      exact⟨by rw[HR3.out];rfl,au hKb.out k4⟩
     ·have HRR:Hid (jO za=(⟨(bn za).toArray⟩,0)):=if_pos hall
      have Ns:=Lib.hid (FV.out (Bj.out.trans hall))
      rw[HRR.out]at Rt
      clear FV Ld Bj hall
      go_wp2_with fail
      refine(Rt.out _ hKb.out).mono ?_;rintro e w4 ⟨rfl,k4⟩
      have hb4:=Lib.hid (au hKb.out k4)
      have Ko4:=Ko.tr k4
      clear k4 hKb Ko Rt
      obtain⟨lo,cO,fo⟩:=Ko4.get
      have hRS:(⟨(bn za).toArray⟩:ByteArray).size=(bn za).toArray.size:=rfl
      have hRZ:(⟨(bn za).toArray⟩:ByteArray).size<=2550:=hsP
      clear hRS
      have HRW:Hid (∀W b,aj W b #[.int .u64 0,.int .u64 S,.int .u64 PP] 24->Calls Tryz.prog 50 #[.slice (some ⟨b,0,none⟩) 3 3] W λe w'=>e=.returned (.string (aG (bQ [0,S,PP])))/\Below W.heap.size W w'):=Lib.hid λW b hb=>aaU S PP W b hb (by omega) (by omega)
      have wS:IntKind.u64.wrap (S:Int)=(S:Int):=IntWalk.u64_in _ (by omega)
      have wP:IntKind.u64.wrap (PP:Int)=(PP:Int):=IntWalk.u64_in _ (by omega)
      generalize aG (bQ [0,S,PP])=SB at*
      generalize aG (eP zb)=WB at*
      generalize(⟨(bn za).toArray⟩:ByteArray)=RB at*
      have hz1:(AK++SB).size=AK.size+SB.size:=ByteArray.size_append
      have hz2:(AK++SB++RB).size=(AK++SB).size+RB.size:=ByteArray.size_append
      have Vq:=gI AK SB (by omega)
      have ad2:=gI (AK++SB) RB (by omega)
      have ad3:=gI (AK++SB++RB) WB (by omega)
      clear hz1 hz2 hsP
      go_upto_region 15 with(fail)
      have mZ:Hid (∀W':World,Below w4.heap.size w4 W'->∀i,W'.cell? ⟨wr.heap.size,i,none⟩= #[Value.int .i64 P0,.int .i64 S,.int .i64 PP,.bool false,.int .u64 T][i]?):=Lib.hid λW' h=>(Ko4.tr h).get.2.1
      refine wp_region_held_drew (S:=(λW'=>∀i,W'.cell? ⟨wr.heap.size,i,none⟩= #[Value.int .i64 P0,.int .i64 S,.int .i64 PP,.bool false,.int .u64 T][i]?)) (by kernel_rfl) ?_ (λhHeld=> ?_)
      ·(try dsimp only);exact mZ.out _ bm
      refine tk 0 ?_
      refine tk 1 ?_
      refine tk 2 ?_
      refine tk 3 ?_
      refine tk 4 ?_
      refine tk 5 ?_
      refine tk 6 ?_
      refine tk 7 ?_
      refine tk 8 ?_
      refine tk 12 ?_
      refine tk 14 ?_
      refine tk 15 ?_
      refine tk 16 ?_
      refine tk 17 ?_
      refine tk 18 ?_
      refine tk 19 ?_
      refine tk 20 ?_
      refine tk 21 ?_
      refine tk 22 ?_
      refine tk 23 ?_
      refine co 9 λK hK=> ?_
      go_simp
      skip
      refine hK.out _ _ ?_ (λhHeld=> ?_)
      ·(try dsimp only);exact mZ.out _ bm
      clear hK K
      refine nx ?_
      refine co 10 λK hK=> ?_
      go_simp
      go_at_call 50;refine(HRW.out _ _ bk).mono ?_;rintro e w5 ⟨rfl,k5⟩;go_wp2_with fail
      refine hK.out _ _ ?_ (λhHeld=> ?_)
      ·(try dsimp only);exact mZ.out _ bm
      clear hK K
      refine nx ?_
      refine tk 11 ?_
      refine tk 13 ?_
      refine co 24 λK hK=> ?_
      go_simp
      go_at_call 51;refine(HWp.out _ (au hb4.out bm)).mono ?_;rintro e w6 ⟨rfl,k6⟩;go_wp2_with fail
      refine hK.out _ _ ?_ (λhHeld=> ?_)
      ·(try dsimp only);exact mZ.out _ bm
      clear hK K
      refine nx ?_
      refine tk 25 ?_
      refine tk 26 ?_
      refine wpAnyH_done (by kernel_rfl) ?_ _
      have hb9:Hid (Below w.heap.size w w6):=Lib.hid (au hb4.out bm)
      go_wp2_with fail
      exact⟨⟨k+1,by omega,by go_num,by rw[HE.out],Ns,hb9⟩,by simp[intOf];omega⟩
    ·have hUl:(aG (bQ [1,T])).size<=20:=by
      rw[aF]
      have h1:=aX (v:=1) (by omega)
      have h2:=aX (v:=T) (by omega)
      simp[bQ]
      omega
     have HE:Hid (A (k+1)=AK++aG (bQ [1,T])):=Lib.hid (HGk.out rfl)
     have Ns:=Lib.hid (FV.out rfl)
     have K6:aj ((wr.alloc (.cells #[.int .i64 P0,.int .i64 S,.int .i64 PP,.bool true,.int .u64 T] 58)).alloc (.cells #[.int .u64 1,.int .u64 T] 24)) (wr.heap.size+1) #[.int .u64 1,.int .u64 T] 24:=aj.mk (by simp)
     have HRW:=Lib.hid (aaT T _ (wr.heap.size+1) K6 (by omega))
     have hb4:Hid (Below w.heap.size w ((wr.alloc (.cells #[.int .i64 P0,.int .i64 S,.int .i64 PP,.bool true,.int .u64 T] 58)).alloc (.cells #[.int .u64 1,.int .u64 T] 24))):=Lib.hid (by have:=hb.out;exact bm)
     clear FV Ld HGk HHk K6
     generalize aG (bQ [1,T])=SB at*
     have Vq:=gI AK SB (by omega)
     go_wp2_with fail
     refine HRW.out.mono ?_;rintro e w5 ⟨rfl,k5⟩
     have hb5:Hid (Below w.heap.size w w5):=Lib.hid (au hb4.out k5)
     clear k5
     go_wp2_with fail
     exact⟨⟨k+1,by omega,by go_num,by rw[HE.out],Ns,hb5⟩,by simp[intOf];omega⟩
   ·obtain rfl:k=m:=by omega
    have HR2:Hid (R=(A k,0)):=Lib.hid (by
     rw[HR1.out,adK.out]
     refine if_pos (List.all_eq_true.2 λx hx=> ?_)
     obtain⟨i,hi,rfl⟩:=List.mem_iff_getElem.1 hx
     have h3:=hok.out i (by have:=Zd.out;omega)
     have h4:dL os i=os[i]:=by simp[dL,List.getD,hi]
     rw[h4]at h3
     exact h3)
    clear hok
    go_wp2_with fail
    go_ret2
    exact⟨by rw[HR2.out];rfl,hb.out⟩
end Go.Proofs.YtpgjploaliefdaaGreat.im
