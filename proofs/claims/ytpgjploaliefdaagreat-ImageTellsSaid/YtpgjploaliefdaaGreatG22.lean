/- The closures of image.Dump. No conditions. -/
import Derived.Test.YtpgjploaliefdaaGreatG21
import Derived.Test.YtpgjploaliefdaaGreatTk
namespace Go.Proofs.YtpgjploaliefdaaGreat.im
open Go Go.RowKit cm cw ga gr hp ob hd cp ck
open fr (aG aW bQ pq put_any aF aX)
set_option linter.unusedVariables false
set_option linter.unusedSimpArgs false
set_option maxRecDepth 100000
set_option maxHeartbeats 4000000
theorem sZ{len:Nat}:∀{pos:Nat}{l:List Ob},iD len pos l->pos+l.length<=len
 |pos,[],h=>by
  have:pos=len:=h
  simp
  omega
 |pos,o::l,⟨h1,h2,h3,h4⟩=>by
  have:=sZ h4
  rw[List.length_cons]
  omega
theorem OY{zs:List Int}{l:List Ob}{k:Nat}(hz:∀i,0<=zs.getD i 0/\zs.getD i 0<18446744073709551616)(h:newF zs=.ok l k):∀o∈l,0<=o.t/\o.t<18446744073709551616:=by
 refine DF hz (λk pos x o k' hx hb=> ?_) (acc:=[]) (λo ho=>by simp at ho) h
 unfold oL at hb
 split at hb
 ·cases hb
  exact⟨Int.le_refl _,(show(0:Int)<18446744073709551616 by decide)⟩
 ·cases hb
theorem EH{h:Hp}{s:dS}(f:cp.Found h s)(z1:Small h.low)(z2:Small h.high)(z3:Small h.old)(z4:Small h.far)(q:Nat)(hq:1<=q/\q<=4):OL (s.obs q):=by
 obtain⟨⟨k1,e1⟩,⟨k2,e2⟩,⟨k3,e3⟩,⟨k4,e4⟩,e5,e6⟩:=f
 rcases(show q=1\/q=2\/q=3\/q=4 by omega)with rfl|rfl|rfl|rfl
 ·exact OY z1 e1
 ·exact OY z2 e2
 ·exact zB z3 e3
 ·exact zB z4 e4
def xR(h:Hp)(v:Hv):Array Value:= #[.int .u64 h.base,.int .i64 h.cap,.int .i64 h.tt,.bool h.dJ,.int .i64 h.scan,v.l,v.h,v.o,v.f,v.r]
theorem mk_any(q:Int)(ad:Option Addr)(n c hb:Nat)(W:World):
  Calls Tryz.prog 26 #[.int .i64 q,.slice ad n c,.pointer (some ⟨hb,0,none⟩)] W λe w'=>e=.returned (.func (.func 27) #[] #[.pointer (some ⟨hb,0,none⟩),.pointer (some ⟨W.heap.size,0,none⟩),.pointer (some ⟨W.heap.size+1,0,none⟩)])/\w'=(W.alloc (.cells #[.int .i64 q] 3)).alloc (.cells #[.slice ad n c] 29):=by
 go_enter Tryz.func26,Tryz.ntmps26
 go_wp2_with fail
 go_ret
 exact⟨rfl,rfl⟩
theorem aaV(h:Hp)(v:Hv)(hb:Nat)(W:World)(hin:kH W h v)(K:aj W hb (xR h v) 32)(hc0:0<=h.cap)(ht0:0<=h.tt)(hs0:0<=h.scan):
  Calls Tryz.prog 29 #[.pointer (some ⟨hb,0,none⟩)] W λe w'=>e=.returned (.tuple #[.string (aG (bQ (jq h))),.int .i64 0])/\Below W.heap.size W w':=by
 have HC:=Lib.hid (VI h v W hin hc0 ht0 hs0)
 obtain⟨la,lc,e1⟩:=ay hin.low
 obtain⟨ha,hc,e2⟩:=ay hin.high
 obtain⟨oa,oc,e3⟩:=ay hin.old
 obtain⟨fa,fc,e4⟩:=ay hin.far
 obtain⟨ra,rc,e5⟩:=ay hin.roots
 obtain⟨vl,vh,vo,vf,vr⟩:=v
 dsimp only at e1 e2 e3 e4 e5
 subst e1 e2 e3 e4 e5
 unfold fD xR at*
 dsimp only at*
 clear hin
 obtain⟨l,c,f⟩:=K.get
 generalize aG (bQ (jq h))=X at*
 go_enter Tryz.func29,Tryz.ntmps29
 go_wp2_with fail
 refine HC.out.mono ?_;rintro e w1 ⟨rfl,k1⟩
 go_wp2_with fail
 go_ret2
 exact⟨rfl,k1⟩
theorem aaW(h:Hp)(v:Hv)(hb:Nat)(W:World)(hin:kH W h v)(K:aj W hb (xR h v) 32)(hr:h.roots.all eU=true)(hl:h.roots.length<1000000):
  Calls Tryz.prog 31 #[.pointer (some ⟨hb,0,none⟩)] W λe w'=>e=.returned (.tuple #[.string (mJ h),.int .i64 0])/\Below W.heap.size W w':=by
 have HC:=Lib.hid (Rx h v W hin hr hl)
 obtain⟨la,lc,e1⟩:=ay hin.low
 obtain⟨ha,hc,e2⟩:=ay hin.high
 obtain⟨oa,oc,e3⟩:=ay hin.old
 obtain⟨fa,fc,e4⟩:=ay hin.far
 obtain⟨ra,rc,e5⟩:=ay hin.roots
 obtain⟨vl,vh,vo,vf,vr⟩:=v
 dsimp only at e1 e2 e3 e4 e5
 subst e1 e2 e3 e4 e5
 unfold fD xR at*
 dsimp only at*
 clear hin
 obtain⟨l,c,f⟩:=K.get
 generalize mJ h=X at*
 go_enter Tryz.func31,Tryz.ntmps31
 go_wp2_with fail
 refine HC.out.mono ?_;rintro e w1 ⟨rfl,k1⟩
 go_wp2_with fail
 go_ret2
 exact⟨rfl,k1⟩
theorem Iq(h:Hp)(v:Hv)(s:dS)(q:Nat)(hq:1<=q/\q<=4)(hb b1 b2:Nat)(W:World)(hin:kH W h v)(hlk:dZ h=some s)(K:aj W hb (xR h v) 32)(K1:aj W b1 #[.int .i64 q] 3)(K2:aj W b2 #[v.part q] 29):
  Calls Tryz.prog 27 #[.pointer (some ⟨hb,0,none⟩),.pointer (some ⟨b1,0,none⟩),.pointer (some ⟨b2,0,none⟩)] W λe w'=>e=.returned (.tuple #[.string (fU h s q),.int .i64 0])/\Below W.heap.size W w':=by
 have HC:=Lib.hid (JO h v q hq W hin)
 obtain⟨ha1,ha2,hf,ha4⟩:=ji hlk
 have hch:=hf.chain q hq
 have hnp:=hin.part q
 have hcap:(h.part q).length<1000000:=by
  have hl:fZ h.lay=true:=by
   unfold aZ at ha1
   rw[Bool.and_eq_true]at ha1
   exact ha1.1
  obtain⟨r1,r2,r3,r4,r5,r6,r7⟩:=pX hl
  have e:=xB h q hq
  unfold jG Hp.lay at e
  unfold Hp.lay at r1 r2 r6 r7
  dsimp only at e r1 r2 r6 r7
  rcases(show q=1\/q=2\/q=3\/q=4 by omega)with rfl|rfl|rfl|rfl<;>simp at e<;>omega
 have hfit:(∀o∈s.obs q,lM (h.part q).length o):=λo ho=>(hch.from o ho).2
 have hlen:(s.obs q).length<=(h.part q).length:=by
  have:=sZ hch
  omega
 have htg:OL (s.obs q):=EH hf hin.slow hin.oM hin.sold hin.uX q hq
 have hpo:=Lib.hid (Ip hlk q hq)
 have HO:Hid (∀W' u,Below W.heap.size W W'->bT W' u (s.obs q)->Calls Tryz.prog 15 #[v.part q,u] W' λe w'=>e=.returned (.tuple #[.string (fU h s q),.int .i64 0])/\Below W'.heap.size W' w'):=Lib.hid λW' u hb hu=>by
  have:=Ac (v.part q) u (h.part q) (s.obs q) W' (hnp.1.tr hb) hnp.2 hu htg hcap (by omega)
  rw[hpo.out]at this
  exact this
 have hol:(s.obs q).length<1000000000000:=by omega
 have HQ:Hid (∃ad n c,v.part q=.slice ad n c):=by
  obtain⟨ad,c,e⟩:=ay hnp.1
  exact⟨_,_,_,e⟩
 obtain⟨vad,vn,vc,hv⟩:=HQ.out
 rw[hv]at K2 HO
 clear hnp hcap hfit hlen htg hpo hch hf ha1 ha2 ha4 hv HQ
 generalize fU h s q=X at*
 have WQ:=Lib.hid hlk
 clear hlk
 obtain⟨la,lc,e1⟩:=ay hin.low
 obtain⟨ha,hc,e2⟩:=ay hin.high
 obtain⟨oa,oc,e3⟩:=ay hin.old
 obtain⟨fa,fc,e4⟩:=ay hin.far
 obtain⟨ra,rc,e5⟩:=ay hin.roots
 obtain⟨vl,vh,vo,vf,vr⟩:=v
 dsimp only at e1 e2 e3 e4 e5
 subst e1 e2 e3 e4 e5
 unfold fD xR at*
 dsimp only at*
 clear hin
 obtain⟨l,c,f⟩:=K.get
 obtain⟨l1,c1,f1⟩:=K1.get
 obtain⟨l2,c2,f2⟩:=K2.get
 go_enter Tryz.func27,Tryz.ntmps27
 go_wp2_with fail
 refine HC.out.mono ?_
 rintro e w1 ⟨⟨hn,he⟩|⟨s',u,hn,rfl,hu⟩,k1⟩
 ·rw[WQ.out]at hn;cases hn
 ·rw[WQ.out]at hn
  obtain rfl:s=s':=Option.some.inj hn
  have hw1:0<w1.heap.size:=by have:=k1.size;omega
  have HU:=Lib.hid (nV hu hw1 hol)
  obtain⟨k1c,k1f⟩:=vF k1
  have hb1:=Lib.hid k1
  clear hu hn k1
  go_wp2_with fail
  refine(HO.out w1 u hb1.out HU.out).mono ?_;rintro e w2 ⟨rfl,k2⟩
  go_wp2_with fail
  go_ret2
  exact⟨rfl,au hb1.out k2⟩
end Go.Proofs.YtpgjploaliefdaaGreat.im
namespace Go.Proofs.YtpgjploaliefdaaGreat.im
open Go Go.RowKit cm cw ga gr hp ob hd cp ck
open fr (aG aW bQ aF aX oh)
set_option linter.unusedVariables false
set_option linter.unusedSimpArgs false
def aK(h:Hp)(s:dS):List (Int×ByteArray):=[(1,aG (bQ (jq h))),(2,mJ h),(3,fU h s 1),(4,fU h s 2),(5,fU h s 3),(6,fU h s 4)]
theorem Dh{α β:Type}(f:α->List β)(m:Nat):∀l:List α,(∀x∈l,(f x).length<=m)->(l.flatMap f).length<=m*l.length
 |[],_=>by simp
 |x::l,h=>by
  have h1:=h x (by simp)
  have h2:=Dh f m l (λy hy=>h y (by simp[hy]))
  rw[List.flatMap_cons,List.length_append,List.length_cons,Nat.mul_add]
  omega
theorem lF(l:List Nat):(aG l).data.toList.length=l.length:=by
 have:=aF l
 rw[Array.length_toList]
 exact this
theorem Zf{v:Nat}(h:v<18446744073709551616):(uP v).length<=10:=by
 unfold uP
 rw[lF]
 exact aX h
theorem Nw{zs:List Int}(h:Small zs)(x:Int)(hx:x∈zs):0<=x/\x<18446744073709551616:=by
 obtain⟨i,hi,rfl⟩:=List.mem_iff_getElem.1 hx
 have:=h i
 rw[List.getD_eq_getElem?_getD,List.getElem?_eq_getElem hi]at this
 exact this
theorem yX{v:Nat}(h:v<16384):(aW v).length<=2:=oh 1 v (Nat.lt_of_lt_of_le h (by decide))
theorem wM{v:Nat}(h:v<128):(aW v).length<=1:=oh 0 v (Nat.lt_of_lt_of_le h (by decide))
theorem Ad{xs:List Int}(h:Small xs):(bn xs).length<=10*xs.length:=by
 unfold bn
 refine Dh _ 10 xs λx hx=> ?_
 refine Zf ?_
 obtain⟨h1,h2⟩:=Nw h x hx
 have:gB x<18446744073709551616:=by unfold gB;split<;>omega
 omega
theorem Gu{xs:List Int}(h:Small xs):(BD xs).length<=10*xs.length:=by
 unfold BD eP
 rw[lF]
 refine Dh _ 10 xs λx hx=> ?_
 rw[fr.iI]
 omega
theorem Ye{zs:List Int}{o:Ob}(hz:Small zs)(hf:lM zs.length o)(ht:0<=o.t/\o.t<18446744073709551616):(gy zs o).length<=11*(1+o.s.toNat):=by
 obtain⟨f1,f2,f3,f4,f5,f6⟩:=hf
 unfold gy
 split
 ·unfold uRow bQ
  rw[lF]
  have h1:=wM (v:=1) (by omega)
  have h2:=aX (v:=o.t.toNat) (by omega)
  simp
  omega
 ·have h1:(uRow [0,o.s.toNat,o.p.toNat]).length<=5:=by
   unfold uRow bQ
   rw[lF]
   have h1:=wM (v:=0) (by omega)
   have h2:=yX (v:=o.s.toNat) (by omega)
   have h3:=yX (v:=o.p.toNat) (by omega)
   simp
   omega
  have h2:=Ad (lD hz (o.pos.toNat+1) o.p.toNat)
  have h3:=Gu (lD hz (o.pos.toNat+1+o.p.toNat) (o.s.toNat-o.p.toNat))
  rw[nS (by omega)]at h2 h3
  rw[List.length_append,List.length_append]
  omega
theorem OZ{zs:List Int}(hz:Small zs):∀{pos:Nat}{l:List Ob},iD zs.length pos l->OL l->(l.flatMap (gy zs)).length<=11*(zs.length-pos)
 |pos,[],h,_=>by simp
 |pos,o::l,h,ht=>by
  have hf:=h.from o (by simp)
  obtain⟨h1,h2,h3,h4⟩:=h
  have e1:=Ye hz hf.2 (ht o (by simp))
  have e2:=OZ hz h4 (λo ho=>ht o (by simp[ho]))
  rw[List.flatMap_cons,List.length_append]
  omega
theorem qF{h:Hp}{s:dS}(e:dZ h=some s):0<=h.cap/\0<=h.tt/\0<=h.scan/\h.roots.length<=16/\h.roots.all eU=true/\h.cap<9223372036854775808/\h.tt<=1/\h.scan<=4096/\∀q,1<=q/\q<=4->(h.part q).length<=4096:=by
 have hr:=J9 e
 obtain⟨ha1,ha2,hf,ha4⟩:=ji e
 unfold aZ at ha1
 rw[Bool.and_eq_true,decide_eq_true_eq]at ha1
 obtain⟨r1,r2,r3,r4,r5,r6,r7⟩:=pX ha1.1
 obtain⟨s1,s2,s3⟩:=ha1.2
 unfold Hp.lay at r1 r2 r3 r4 r5 r6 r7
 dsimp only at r1 r2 r3 r4 r5 r6 r7
 refine⟨r1,by omega,s2,s1,hr,by omega,by omega,by omega,λq hq=> ?_⟩
 unfold Hp.part
 rcases(show q=1\/q=2\/q=3\/q=4 by omega)with rfl|rfl|rfl|rfl<;>simp<;>omega
theorem rC{h:Hp}{s:dS}(e:dZ h=some s)(z1:Small h.low)(z2:Small h.high)(z3:Small h.old)(z4:Small h.far)(q:Nat)(hq:1<=q/\q<=4):(fU h s q).size<=100000:=by
 obtain⟨p1,p2,p3,p4,p5,p6,p7,p8,hl⟩:=qF e
 have hl:=hl q hq
 obtain⟨ha1,ha2,hf,ha4⟩:=ji e
 have hc:=hf.chain q hq
 have ht:=EH hf z1 z2 z3 z4 q hq
 have hs:Small (h.part q):=by
  unfold Hp.part
  rcases(show q=1\/q=2\/q=3\/q=4 by omega)with rfl|rfl|rfl|rfl
  ·exact z1
  ·exact z2
  ·exact z3
  ·exact z4
 have h1:=OZ hs hc ht
 have h2:=sZ hc
 have h3:=Zf (v:=(s.obs q).length) (by omega)
 show(uP (s.obs q).length++(s.obs q).flatMap (gy (h.part q))).toArray.size<=100000
 simp only[List.size_toArray,List.length_append]
 omega
theorem BG{h:Hp}{s:dS}(e:dZ h=some s)(hb:0<=h.base/\h.base<18446744073709551616)(z1:Small h.low)(z2:Small h.high)(z3:Small h.old)(z4:Small h.far)(z5:Small h.roots):∀f∈aK h s,f.2.size<=100000:=by
 obtain⟨p1,p2,p3,p4,p5,p6,p7,p8,hl⟩:=qF e
 intro f hf
 unfold aK at hf
 simp only[List.mem_cons,List.not_mem_nil,or_false]at hf
 rcases hf with rfl|rfl|rfl|rfl|rfl|rfl
 ·show(aG (bQ (jq h))).size<=100000
  rw[aF]
  unfold bQ
  refine Nat.le_trans (Dh aW 10 (jq h) λx hx=> ?_) (by unfold jq;simp)
  refine aX ?_
  unfold jq at hx
  simp only[List.mem_cons,List.not_mem_nil,or_false]at hx
  rcases hx with rfl|rfl|rfl|rfl|rfl|rfl
  ·omega
  ·omega
  ·omega
  ·omega
  ·split<;>omega
  ·omega
 ·show(mJ h).size<=100000
  unfold mJ
  have h1:=Ad z5
  have h2:=aX (v:=h.roots.length) (by omega)
  rw[ByteArray.size_append,aF]
  have:(ByteArray.mk (bn h.roots).toArray).size=(bn h.roots).length:=by
   show(bn h.roots).toArray.size=_
   simp
  omega
 ·exact rC e z1 z2 z3 z4 1 (by omega)
 ·exact rC e z1 z2 z3 z4 2 (by omega)
 ·exact rC e z1 z2 z3 z4 3 (by omega)
 ·exact rC e z1 z2 z3 z4 4 (by omega)
theorem Gv{h:Hp}{s:dS}:∀f∈aK h s,-9223372036854775808<=f.1/\f.1<9223372036854775808:=by
 intro f hf
 unfold aK at hf
 simp only[List.mem_cons,List.not_mem_nil,or_false]at hf
 rcases hf with rfl|rfl|rfl|rfl|rfl|rfl<;>(dsimp only;omega)
end Go.Proofs.YtpgjploaliefdaaGreat.im
namespace Go.Proofs.YtpgjploaliefdaaGreat.im
open Go Go.RowKit cm cw ga gr hp ob hd cp ck
open fr (aG aW bQ aF aX oh lZ fF oN jM iC eH iQ pz)
set_option linter.unusedVariables false
set_option linter.unusedSimpArgs false
theorem EI{bg:Nat->Nat->Int->Option (Ob×Nat)}{zs:List Int}{len:Nat}(hz:Small zs)(hbg:∀k pos x o k',(0<=x/\x<18446744073709551616)->bg k pos x=some (o,k')->0<=o.t/\o.t<9223372036854775808):
  ∀{f k pos:Nat}{acc l:List Ob}{k2:Nat},(∀o∈acc,0<=o.t/\o.t<9223372036854775808)->aV bg zs len f k pos acc=.ok l k2->∀o∈l,0<=o.t/\o.t<9223372036854775808
 |0,k,pos,acc,l,k2,ha,h=>by cases h
 |f+1,k,pos,acc,l,k2,ha,h=>by
  by_cases hp:pos<len
  ·rw[fC hp]at h
   split at h
   ·cases h
   ·rename_i o k' hb
    have h1:=hbg _ _ _ _ _ (hz pos) hb
    split at h
    ·cases h
    ·split at h
     ·exact EI hz hbg (acc:=acc++[o]) (λo' ho'=>by
       rcases List.mem_append.1 ho' with h6|h6
       ·exact ha _ h6
       ·simp at h6;subst h6;exact h1) h
     ·cases h
  ·rw[gQ hp]at h
   cases h
   exact ha
theorem VL{k pos:Nat}{x:Int}{o:Ob}{k':Nat}(hb:oL k pos x=some (o,k')):0<=o.t/\o.t<9223372036854775808:=by
 unfold oL at hb
 split at hb
 ·cases hb
  exact⟨Int.le_refl _,(show(0:Int)<9223372036854775808 by decide)⟩
 ·cases hb
theorem O1{zs:List Int}{l:List Ob}{k:Nat}(hz:Small zs)(h:newF zs=.ok l k):∀o∈l,0<=o.t/\o.t<9223372036854775808:=
 EI hz (λk pos x o k' hx hb=>VL hb) (acc:=[]) (λo ho=>by simp at ho) h
theorem O6{zs:List Int}{ss:List (Int×Int)}{l:List Ob}{k:Nat}(hz:Small zs)(h:iq zs ss=.ok l k):∀o∈l,0<=o.t/\o.t<9223372036854775808:=by
 unfold iq at h
 generalize hw:aV (jP ss.length ss) zs zs.length (zs.length+1) 0 0 []=r at h
 rcases r with⟨l',k'⟩|⟨c,k'⟩
 ·obtain rfl:=pJ h
  refine EI hz (λk pos x o k' hx hb=> ?_) (acc:=[]) (λo ho=>by simp at ho) hw
  unfold jP at hb
  split at hb
  ·split at hb
   ·cases hb
    show 0<=gB x/\gB x<_
    unfold gB
    split<;>omega
   ·cases hb
  ·exact VL hb
 ·cases h
theorem VN{h:Hp}{s:dS}(f:cp.Found h s)(z1:Small h.low)(z2:Small h.high)(z3:Small h.old)(z4:Small h.far)(q:Nat)(hq:1<=q/\q<=4):∀o∈s.obs q,0<=o.t/\o.t<9223372036854775808:=by
 obtain⟨⟨k1,e1⟩,⟨k2,e2⟩,⟨k3,e3⟩,⟨k4,e4⟩,e5,e6⟩:=f
 rcases(show q=1\/q=2\/q=3\/q=4 by omega)with rfl|rfl|rfl|rfl
 ·exact O1 z1 e1
 ·exact O1 z2 e2
 ·exact O6 z3 e3
 ·exact O6 z4 e4
theorem aaX{v:Nat}(h:v<9223372036854775808):(aW v).length<=9:=oh 8 v (Nat.lt_of_lt_of_le h (by decide))
theorem aaY{zs:List Int}{o:Ob}(hz:Small zs)(hf:lM zs.length o)(ht:0<=o.t/\o.t<9223372036854775808):(gy zs o).length<=10*(1+o.s.toNat):=by
 obtain⟨f1,f2,f3,f4,f5,f6⟩:=hf
 unfold gy
 split
 ·unfold uRow bQ
  rw[lF]
  have h1:=wM (v:=1) (by omega)
  have h2:=aaX (v:=o.t.toNat) (by omega)
  simp
  omega
 ·have h1:(uRow [0,o.s.toNat,o.p.toNat]).length<=5:=by
   unfold uRow bQ
   rw[lF]
   have h1:=wM (v:=0) (by omega)
   have h2:=yX (v:=o.s.toNat) (by omega)
   have h3:=yX (v:=o.p.toNat) (by omega)
   simp
   omega
  have h2:=Ad (lD hz (o.pos.toNat+1) o.p.toNat)
  have h3:=Gu (lD hz (o.pos.toNat+1+o.p.toNat) (o.s.toNat-o.p.toNat))
  rw[nS (by omega)]at h2 h3
  rw[List.length_append,List.length_append]
  omega
theorem Gw{zs:List Int}(hz:Small zs):∀{pos:Nat}{l:List Ob},iD zs.length pos l->(∀o∈l,0<=o.t/\o.t<9223372036854775808)->(l.flatMap (gy zs)).length<=10*(zs.length-pos)
 |pos,[],h,_=>by simp
 |pos,o::l,h,ht=>by
  have hf:=h.from o (by simp)
  obtain⟨h1,h2,h3,h4⟩:=h
  have e1:=aaY hz hf.2 (ht o (by simp))
  have e2:=Gw hz h4 (λo ho=>ht o (by simp[ho]))
  rw[List.flatMap_cons,List.length_append]
  omega
theorem uK{h:Hp}{s:dS}(e:dZ h=some s)(z1:Small h.low)(z2:Small h.high)(z3:Small h.old)(z4:Small h.far)(q:Nat)(hq:1<=q/\q<=4):(fU h s q).size<=10*(h.part q).length+2:=by
 obtain⟨p1,p2,p3,p4,p5,p6,p7,p8,hl⟩:=qF e
 have hl:=hl q hq
 obtain⟨ha1,ha2,hf,ha4⟩:=ji e
 have hc:=hf.chain q hq
 have ht:=VN hf z1 z2 z3 z4 q hq
 have hs:Small (h.part q):=by
  unfold Hp.part
  rcases(show q=1\/q=2\/q=3\/q=4 by omega)with rfl|rfl|rfl|rfl
  ·exact z1
  ·exact z2
  ·exact z3
  ·exact z4
 have h1:=Gw hs hc ht
 have h2:=sZ hc
 have h3:(uP (s.obs q).length).length<=2:=by
  unfold uP
  rw[lF]
  exact yX (by omega)
 show(uP (s.obs q).length++(s.obs q).flatMap (gy (h.part q))).toArray.size<=_
 simp only[List.size_toArray,List.length_append]
 omega
theorem RJ(f:Int×ByteArray)(hs:f.2.size<100000000000):(iQ f).length<=f.2.size+15/\f.2.size+6<=(iQ f).length:=by
 have h1:(aG [f.1.toNat]).size=1:=aF _
 have h2:(aG (aW f.2.size)).size<=10:=by rw[aF];exact aX (by omega)
 have h4:1<=(aG (aW f.2.size)).size:=by rw[aF];exact lZ _
 have h3:∀X,(jM X).size=4:=λX=>by unfold jM;rw[aF];simp[le4]
 have e:(iQ f).length=(fF f.1.toNat f.2).size:=by unfold iQ;rw[Array.length_toList];rfl
 rw[e]
 unfold fF oN
 simp only[ByteArray.size_append,h1,h3]
 omega
theorem ab5{h:Hp}{s:dS}(e:dZ h=some s)(hb:0<=h.base/\h.base<18446744073709551616)(z1:Small h.low)(z2:Small h.high)(z3:Small h.old)(z4:Small h.far)(z5:Small h.roots):
  (eH (aK h s)).2=0/\(eH (aK h s)).1.size<=10*(h.low.length+h.high.length+h.old.length+h.far.length)+10*h.roots.length+150/\36+h.roots.length<=(eH (aK h s)).1.size:=by
 have hle:=BG e hb z1 z2 z3 z4 z5
 obtain⟨p1,p2,p3,p4,p5,p6,p7,p8,hl⟩:=qF e
 have hid:∀f∈aK h s,pz f:=by
  intro f hf
  unfold aK at hf
  simp only[List.mem_cons,List.not_mem_nil,or_false]at hf
  rcases hf with rfl|rfl|rfl|rfl|rfl|rfl<;>(unfold pz;dsimp only;decide)
 have hsz:(eH (aK h s)).1.size=(iC (aK h s)).length:=by
  unfold eH
  rw[if_pos hid]
  show(iC (aK h s)).toArray.size=_
  simp
 refine⟨by unfold eH;rw[if_pos hid],?_⟩
 rw[hsz]
 have hm:∀f∈aK h s,(iQ f).length<=f.2.size+15/\f.2.size+6<=(iQ f).length:=λf hf=>RJ f (by have:=hle f hf;omega)
 have b1:=hm (1,aG (bQ (jq h))) (by unfold aK;simp)
 have b2:=hm (2,mJ h) (by unfold aK;simp)
 have b3:=hm (3,fU h s 1) (by unfold aK;simp)
 have b4:=hm (4,fU h s 2) (by unfold aK;simp)
 have b5:=hm (5,fU h s 3) (by unfold aK;simp)
 have b6:=hm (6,fU h s 4) (by unfold aK;simp)
 have c3:=uK e z1 z2 z3 z4 1 (by omega)
 have c4:=uK e z1 z2 z3 z4 2 (by omega)
 have c5:=uK e z1 z2 z3 z4 3 (by omega)
 have c6:=uK e z1 z2 z3 z4 4 (by omega)
 have q1:(h.part 1)=h.low:=rfl
 have q2:(h.part 2)=h.high:=rfl
 have q3:(h.part 3)=h.old:=rfl
 have q4:(h.part 4)=h.far:=rfl
 rw[q1]at c3
 rw[q2]at c4
 rw[q3]at c5
 rw[q4]at c6
 have c1:(aG (bQ (jq h))).size<=17:=by
  rw[aF]
  unfold bQ jq
  have h1:=wM (v:=1) (by omega)
  have h2:=aX (v:=h.base.toNat) (by omega)
  have hc:h.cap.toNat<=4096:=by
   obtain⟨ha1,ha2,hf,ha4⟩:=ji e
   unfold aZ at ha1
   rw[Bool.and_eq_true,decide_eq_true_eq]at ha1
   obtain⟨r1,r2,r3,r4,r5,r6,r7⟩:=pX ha1.1
   have:h.cap<=4096:=r2
   omega
  have h3:=yX (v:=h.cap.toNat) (by omega)
  have h4:=wM (v:=h.tt.toNat) (by omega)
  have h5:=wM (v:=if h.dJ then 1 else 0) (by split<;>omega)
  have h6:=yX (v:=h.scan.toNat) (by
   obtain⟨ha1,ha2,hf,ha4⟩:=ji e
   unfold aZ at ha1
   rw[Bool.and_eq_true,decide_eq_true_eq]at ha1
   have:=hl 1 (by omega)
   rw[q1]at this
   omega)
  simp only[List.flatMap_cons,List.flatMap_nil,List.length_append,List.length_nil]
  omega
 have c2:(mJ h).size<=1+10*h.roots.length/\h.roots.length<=(mJ h).size:=by
  have h1:=Ad z5
  have h2:=wM (v:=h.roots.length) (by omega)
  have h3:h.roots.length<=(bn h.roots).length:=by
   unfold bn
   generalize h.roots=l
   induction l with
   |nil=>simp
   |cons a l ih=>
    rw[List.flatMap_cons,List.length_append,List.length_cons]
    have:1<=(uP (gB a).toNat).length:=by unfold uP;rw[lF];exact lZ _
    omega
  have e1:(mJ h).size=(aW h.roots.length).length+(bn h.roots).length:=by
   unfold mJ
   rw[ByteArray.size_append,aF]
   congr 1
  omega
 have hj:(iC (aK h s)).length=(iQ (1,aG (bQ (jq h)))).length+(iQ (2,mJ h)).length+(iQ (3,fU h s 1)).length+(iQ (4,fU h s 2)).length+(iQ (5,fU h s 3)).length+(iQ (6,fU h s 4)).length:=by
  unfold iC aK
  simp only[List.flatMap_cons,List.flatMap_nil,List.length_append,List.length_nil]
  omega
 rw[hj]
 dsimp only at b1 b2 b3 b4 b5 b6
 omega
end Go.Proofs.YtpgjploaliefdaaGreat.im
namespace Go.Proofs.YtpgjploaliefdaaGreat.im
open Go Go.RowKit cm cw ga gr hp ob hd cp ck
open fr (aG aW bQ pq put_any aF aX oh lI jV J6 eH)
set_option linter.unusedVariables false
set_option linter.unusedSimpArgs false
set_option maxRecDepth 100000
set_option maxHeartbeats 4000000
theorem Gx(h:Hp)(v:Hv)(w:World)(hin:kH w h v)(hn:dZ h=none):
  Calls Tryz.prog 10 #[fD h v] w λe w'=>e=.returned (.tuple #[.string ⟨#[]⟩,.int .i64 1])/\Below w.heap.size w w':=by
 have HR:Hid (∀W,kH W h v->Calls Tryz.prog 19 #[fD h v] W λe w'=>e=.returned (.bool false)/\Below W.heap.size W w'):=Lib.hid λW hin=>by
  have:=kY h v W hin
  rw[hn]at this
  exact this
 have vC:=Lib.hid hin
 clear hn
 obtain⟨la,lc,e1⟩:=ay hin.low
 obtain⟨ha,hc,e2⟩:=ay hin.high
 obtain⟨oa,oc,e3⟩:=ay hin.old
 obtain⟨fa,fc,e4⟩:=ay hin.far
 obtain⟨ra,rc,e5⟩:=ay hin.roots
 obtain⟨vl,vh,vo,vf,vr⟩:=v
 dsimp only at e1 e2 e3 e4 e5
 subst e1 e2 e3 e4 e5
 unfold fD at*
 dsimp only at*
 clear hin
 have HI1:=Lib.hid (vC.out.tr ((Below.refl _ _).alloc (Nat.le_refl _) (.cells #[.int .u64 h.base,.int .i64 h.cap,.int .i64 h.tt,.bool h.dJ,.int .i64 h.scan,.slice la h.low.length lc,.slice ha h.high.length hc,.slice oa h.old.length oc,.slice fa h.far.length fc,.slice ra h.roots.length rc] 32)))
 go_enter Tryz.func10,Tryz.ntmps10
 go_wp2_with fail
 refine(HR.out _ HI1.out).mono ?_;rintro e w1 ⟨rfl,k1⟩
 go_wp2_with fail
 go_ret2
 refine⟨rfl,?_⟩
 exact bm
theorem BH{W w1:World}{b:Nat}(hb:Below W.heap.size W w1)(hn:b<W.heap.size){o1 o2 o3 o4:Nat}{v1 v2 v3 v4:Value}(h:W.cell? ⟨b,o1,none⟩=some v1/\W.cell? ⟨b,o2,none⟩=some v2/\W.cell? ⟨b,o3,none⟩=some v3/\W.cell? ⟨b,o4,none⟩=some v4):
  w1.cell? ⟨b,o1,none⟩=some v1/\w1.cell? ⟨b,o2,none⟩=some v2/\w1.cell? ⟨b,o3,none⟩=some v3/\w1.cell? ⟨b,o4,none⟩=some v4:=by
 have hc:∀o,w1.cell? ⟨b,o,none⟩=W.cell? ⟨b,o,none⟩:=λo=>hb.cell (p:=⟨b,o,none⟩) hn
 rw[hc,hc,hc,hc]
 exact h
theorem Di(q:Int)(ad:Option Addr)(n c hb:Nat)(W:World):
  Calls Tryz.prog 26 #[.int .i64 q,.slice ad n c,.pointer (some ⟨hb,0,none⟩)] W λe w'=>∃b d,e=.returned (.func (.func 27) #[] #[.pointer (some ⟨hb,0,none⟩),.pointer (some ⟨b,0,none⟩),.pointer (some ⟨d,0,none⟩)])/\Below W.heap.size W w'/\aj w' b #[.int .i64 q] 3/\aj w' d #[.slice ad n c] 29:=by
 refine(mk_any q ad n c hb W).mono ?_
 rintro e w' ⟨rfl,rfl⟩
 refine⟨_,_,rfl,?_,(aj.new W _ _).alloc _,aj.mk (by simp)⟩
 exact bm
theorem Gy(h:Hp)(v:Hv)(s:dS)(w:World)(hin:kH w h v)(hlk:dZ h=some s):
  Calls Tryz.prog 10 #[fD h v] w λe w'=>e=.returned (.tuple #[.string (eH (aK h s)).1,.int .i64 (eH (aK h s)).2])/\Below w.heap.size w w':=by
 have HR:Hid (∀W,kH W h v->Calls Tryz.prog 19 #[fD h v] W λe w'=>e=.returned (.bool true)/\Below W.heap.size W w'):=Lib.hid λW hin=>by
  have:=kY h v W hin
  rw[hlk]at this
  exact this
 have vC:=Lib.hid hin
 have WQ:=Lib.hid hlk
 clear hlk
 obtain⟨la,lc,e1⟩:=ay hin.low
 obtain⟨ha,hc,e2⟩:=ay hin.high
 obtain⟨oa,oc,e3⟩:=ay hin.old
 obtain⟨fa,fc,e4⟩:=ay hin.far
 obtain⟨ra,rc,e5⟩:=ay hin.roots
 obtain⟨vl,vh,vo,vf,vr⟩:=v
 dsimp only at e1 e2 e3 e4 e5
 subst e1 e2 e3 e4 e5
 unfold fD at*
 dsimp only at*
 clear hin
 have HI1:=Lib.hid (vC.out.tr ((Below.refl _ _).alloc (Nat.le_refl _) (.cells #[.int .u64 h.base,.int .i64 h.cap,.int .i64 h.tt,.bool h.dJ,.int .i64 h.scan,.slice la h.low.length lc,.slice ha h.high.length hc,.slice oa h.old.length oc,.slice fa h.far.length fc,.slice ra h.roots.length rc] 32)))
 have K0:aj (w.alloc (.cells #[.int .u64 h.base,.int .i64 h.cap,.int .i64 h.tt,.bool h.dJ,.int .i64 h.scan,.slice la h.low.length lc,.slice ha h.high.length hc,.slice oa h.old.length oc,.slice fa h.far.length fc,.slice ra h.roots.length rc] 32)) w.heap.size #[.int .u64 h.base,.int .i64 h.cap,.int .i64 h.tt,.bool h.dJ,.int .i64 h.scan,.slice la h.low.length lc,.slice ha h.high.length hc,.slice oa h.old.length oc,.slice fa h.far.length fc,.slice ra h.roots.length rc] 32:=aj.new _ _ _
 go_enter Tryz.func10,Tryz.ntmps10
 go_wp2_with fail
 refine(HR.out _ HI1.out).mono ?_;rintro e w1 ⟨rfl,k1⟩
 have K1:=K0.tr k1
 have hb1:Hid (Below w.heap.size w w1):=Lib.hid (by exact bm)
 clear K0 k1 HI1 HR
 obtain⟨l1,c1,f1⟩:=K1.get
 have hcc:w1.cell? ⟨w.heap.size,5,none⟩=some (.slice la h.low.length lc)/\w1.cell? ⟨w.heap.size,6,none⟩=some (.slice ha h.high.length hc)/\w1.cell? ⟨w.heap.size,7,none⟩=some (.slice oa h.old.length oc)/\w1.cell? ⟨w.heap.size,8,none⟩=some (.slice fa h.far.length fc):=⟨c1 5,c1 6,c1 7,c1 8⟩
 clear c1 f1
 go_wp2_with fail
 refine wp_region_held_drew (S:=(λw'=>w'.cell? ⟨w.heap.size,5,none⟩=some (.slice la h.low.length lc)/\w'.cell? ⟨w.heap.size,6,none⟩=some (.slice ha h.high.length hc)/\w'.cell? ⟨w.heap.size,7,none⟩=some (.slice oa h.old.length oc)/\w'.cell? ⟨w.heap.size,8,none⟩=some (.slice fa h.far.length fc))) (by kernel_rfl) ?_ (λhHeld=> ?_)
 ·(try dsimp only);refine BH (W:=w1) ?_ l1 hcc;exact bm
 refine tk 0 ?_
 refine tk 1 ?_
 refine tk 2 ?_
 refine tk 3 ?_
 refine tk 4 ?_
 refine tk 5 ?_
 refine tk 6 ?_
 refine tk 9 ?_
 refine tk 10 ?_
 refine tk 11 ?_
 refine tk 14 ?_
 refine tk 15 ?_
 refine tk 16 ?_
 refine tk 19 ?_
 refine tk 20 ?_
 refine tk 21 ?_
 refine co 7 λK hK=> ?_
 go_simp
 go_at_call 26;refine(Di 1 _ _ _ _ _).mono ?_;rintro e w2 ⟨b2,d2,rfl,k2,B2,D2⟩;go_wp2_with fail
 refine hK.out _ _ ?_ (λhHeld=> ?_)
 ·(try dsimp only);refine BH (W:=w1) ?_ l1 hcc;exact bm
 clear hK K
 refine nx ?_
 refine tk 8 ?_
 refine co 12 λK hK=> ?_
 go_simp
 go_at_call 26;refine(Di 2 _ _ _ _ _).mono ?_;rintro e w3 ⟨b3,d3,rfl,k3,B3,D3⟩;go_wp2_with fail
 refine hK.out _ _ ?_ (λhHeld=> ?_)
 ·(try dsimp only);refine BH (W:=w1) ?_ l1 hcc;exact bm
 clear hK K
 refine nx ?_
 refine tk 13 ?_
 refine co 17 λK hK=> ?_
 go_simp
 go_at_call 26;refine(Di 3 _ _ _ _ _).mono ?_;rintro e w4 ⟨b4,d4,rfl,k4,B4,D4⟩;go_wp2_with fail
 refine hK.out _ _ ?_ (λhHeld=> ?_)
 ·(try dsimp only);refine BH (W:=w1) ?_ l1 hcc;exact bm
 clear hK K
 refine nx ?_
 refine tk 18 ?_
 refine co 22 λK hK=> ?_
 go_simp
 go_at_call 26;refine(Di 4 _ _ _ _ _).mono ?_;rintro e w5 ⟨b5,d5,rfl,k5,B5,D5⟩;go_wp2_with fail
 refine hK.out _ _ ?_ (λhHeld=> ?_)
 ·(try dsimp only);refine BH (W:=w1) ?_ l1 hcc;exact bm
 clear hK K
 refine nx ?_
 refine tk 23 ?_
 refine wpAnyH_ready (rs:=[24]) (by kernel_rfl) (by simp) ?_
 refine AllReadyH.cons rfl (λK hK=> ?_) AllReadyH.nil
 go_simp
 have K6:=aj.new w5 #[.int .i64 1,.func (.func 29) #[] #[.pointer (some ⟨w.heap.size,0,none⟩)],.int .i64 2,.func (.func 31) #[] #[.pointer (some ⟨w.heap.size,0,none⟩)],.int .i64 3,.func (.func 27) #[] #[.pointer (some ⟨w.heap.size,0,none⟩),.pointer (some ⟨b2,0,none⟩),.pointer (some ⟨d2,0,none⟩)],.int .i64 4,.func (.func 27) #[] #[.pointer (some ⟨w.heap.size,0,none⟩),.pointer (some ⟨b3,0,none⟩),.pointer (some ⟨d3,0,none⟩)],.int .i64 5,.func (.func 27) #[] #[.pointer (some ⟨w.heap.size,0,none⟩),.pointer (some ⟨b4,0,none⟩),.pointer (some ⟨d4,0,none⟩)],.int .i64 6,.func (.func 27) #[] #[.pointer (some ⟨w.heap.size,0,none⟩),.pointer (some ⟨b5,0,none⟩),.pointer (some ⟨d5,0,none⟩)]] 73
 have kB:Below w1.heap.size w1 (w5.alloc (.cells #[.int .i64 1,.func (.func 29) #[] #[.pointer (some ⟨w.heap.size,0,none⟩)],.int .i64 2,.func (.func 31) #[] #[.pointer (some ⟨w.heap.size,0,none⟩)],.int .i64 3,.func (.func 27) #[] #[.pointer (some ⟨w.heap.size,0,none⟩),.pointer (some ⟨b2,0,none⟩),.pointer (some ⟨d2,0,none⟩)],.int .i64 4,.func (.func 27) #[] #[.pointer (some ⟨w.heap.size,0,none⟩),.pointer (some ⟨b3,0,none⟩),.pointer (some ⟨d3,0,none⟩)],.int .i64 5,.func (.func 27) #[] #[.pointer (some ⟨w.heap.size,0,none⟩),.pointer (some ⟨b4,0,none⟩),.pointer (some ⟨d4,0,none⟩)],.int .i64 6,.func (.func 27) #[] #[.pointer (some ⟨w.heap.size,0,none⟩),.pointer (some ⟨b5,0,none⟩),.pointer (some ⟨d5,0,none⟩)]] 73)):=by exact bm
 have K0:=K1.tr kB
 have E2:=(B2.tr k3).tr k4|>.tr k5|>.alloc (.cells #[.int .i64 1,.func (.func 29) #[] #[.pointer (some ⟨w.heap.size,0,none⟩)],.int .i64 2,.func (.func 31) #[] #[.pointer (some ⟨w.heap.size,0,none⟩)],.int .i64 3,.func (.func 27) #[] #[.pointer (some ⟨w.heap.size,0,none⟩),.pointer (some ⟨b2,0,none⟩),.pointer (some ⟨d2,0,none⟩)],.int .i64 4,.func (.func 27) #[] #[.pointer (some ⟨w.heap.size,0,none⟩),.pointer (some ⟨b3,0,none⟩),.pointer (some ⟨d3,0,none⟩)],.int .i64 5,.func (.func 27) #[] #[.pointer (some ⟨w.heap.size,0,none⟩),.pointer (some ⟨b4,0,none⟩),.pointer (some ⟨d4,0,none⟩)],.int .i64 6,.func (.func 27) #[] #[.pointer (some ⟨w.heap.size,0,none⟩),.pointer (some ⟨b5,0,none⟩),.pointer (some ⟨d5,0,none⟩)]] 73)
 have G2:=(D2.tr k3).tr k4|>.tr k5|>.alloc (.cells #[.int .i64 1,.func (.func 29) #[] #[.pointer (some ⟨w.heap.size,0,none⟩)],.int .i64 2,.func (.func 31) #[] #[.pointer (some ⟨w.heap.size,0,none⟩)],.int .i64 3,.func (.func 27) #[] #[.pointer (some ⟨w.heap.size,0,none⟩),.pointer (some ⟨b2,0,none⟩),.pointer (some ⟨d2,0,none⟩)],.int .i64 4,.func (.func 27) #[] #[.pointer (some ⟨w.heap.size,0,none⟩),.pointer (some ⟨b3,0,none⟩),.pointer (some ⟨d3,0,none⟩)],.int .i64 5,.func (.func 27) #[] #[.pointer (some ⟨w.heap.size,0,none⟩),.pointer (some ⟨b4,0,none⟩),.pointer (some ⟨d4,0,none⟩)],.int .i64 6,.func (.func 27) #[] #[.pointer (some ⟨w.heap.size,0,none⟩),.pointer (some ⟨b5,0,none⟩),.pointer (some ⟨d5,0,none⟩)]] 73)
 have E3:=(B3.tr k4).tr k5|>.alloc (.cells #[.int .i64 1,.func (.func 29) #[] #[.pointer (some ⟨w.heap.size,0,none⟩)],.int .i64 2,.func (.func 31) #[] #[.pointer (some ⟨w.heap.size,0,none⟩)],.int .i64 3,.func (.func 27) #[] #[.pointer (some ⟨w.heap.size,0,none⟩),.pointer (some ⟨b2,0,none⟩),.pointer (some ⟨d2,0,none⟩)],.int .i64 4,.func (.func 27) #[] #[.pointer (some ⟨w.heap.size,0,none⟩),.pointer (some ⟨b3,0,none⟩),.pointer (some ⟨d3,0,none⟩)],.int .i64 5,.func (.func 27) #[] #[.pointer (some ⟨w.heap.size,0,none⟩),.pointer (some ⟨b4,0,none⟩),.pointer (some ⟨d4,0,none⟩)],.int .i64 6,.func (.func 27) #[] #[.pointer (some ⟨w.heap.size,0,none⟩),.pointer (some ⟨b5,0,none⟩),.pointer (some ⟨d5,0,none⟩)]] 73)
 have G3:=(D3.tr k4).tr k5|>.alloc (.cells #[.int .i64 1,.func (.func 29) #[] #[.pointer (some ⟨w.heap.size,0,none⟩)],.int .i64 2,.func (.func 31) #[] #[.pointer (some ⟨w.heap.size,0,none⟩)],.int .i64 3,.func (.func 27) #[] #[.pointer (some ⟨w.heap.size,0,none⟩),.pointer (some ⟨b2,0,none⟩),.pointer (some ⟨d2,0,none⟩)],.int .i64 4,.func (.func 27) #[] #[.pointer (some ⟨w.heap.size,0,none⟩),.pointer (some ⟨b3,0,none⟩),.pointer (some ⟨d3,0,none⟩)],.int .i64 5,.func (.func 27) #[] #[.pointer (some ⟨w.heap.size,0,none⟩),.pointer (some ⟨b4,0,none⟩),.pointer (some ⟨d4,0,none⟩)],.int .i64 6,.func (.func 27) #[] #[.pointer (some ⟨w.heap.size,0,none⟩),.pointer (some ⟨b5,0,none⟩),.pointer (some ⟨d5,0,none⟩)]] 73)
 have E4:=(B4.tr k5).alloc (.cells #[.int .i64 1,.func (.func 29) #[] #[.pointer (some ⟨w.heap.size,0,none⟩)],.int .i64 2,.func (.func 31) #[] #[.pointer (some ⟨w.heap.size,0,none⟩)],.int .i64 3,.func (.func 27) #[] #[.pointer (some ⟨w.heap.size,0,none⟩),.pointer (some ⟨b2,0,none⟩),.pointer (some ⟨d2,0,none⟩)],.int .i64 4,.func (.func 27) #[] #[.pointer (some ⟨w.heap.size,0,none⟩),.pointer (some ⟨b3,0,none⟩),.pointer (some ⟨d3,0,none⟩)],.int .i64 5,.func (.func 27) #[] #[.pointer (some ⟨w.heap.size,0,none⟩),.pointer (some ⟨b4,0,none⟩),.pointer (some ⟨d4,0,none⟩)],.int .i64 6,.func (.func 27) #[] #[.pointer (some ⟨w.heap.size,0,none⟩),.pointer (some ⟨b5,0,none⟩),.pointer (some ⟨d5,0,none⟩)]] 73)
 have G4:=(D4.tr k5).alloc (.cells #[.int .i64 1,.func (.func 29) #[] #[.pointer (some ⟨w.heap.size,0,none⟩)],.int .i64 2,.func (.func 31) #[] #[.pointer (some ⟨w.heap.size,0,none⟩)],.int .i64 3,.func (.func 27) #[] #[.pointer (some ⟨w.heap.size,0,none⟩),.pointer (some ⟨b2,0,none⟩),.pointer (some ⟨d2,0,none⟩)],.int .i64 4,.func (.func 27) #[] #[.pointer (some ⟨w.heap.size,0,none⟩),.pointer (some ⟨b3,0,none⟩),.pointer (some ⟨d3,0,none⟩)],.int .i64 5,.func (.func 27) #[] #[.pointer (some ⟨w.heap.size,0,none⟩),.pointer (some ⟨b4,0,none⟩),.pointer (some ⟨d4,0,none⟩)],.int .i64 6,.func (.func 27) #[] #[.pointer (some ⟨w.heap.size,0,none⟩),.pointer (some ⟨b5,0,none⟩),.pointer (some ⟨d5,0,none⟩)]] 73)
 have E5:=B5.alloc (.cells #[.int .i64 1,.func (.func 29) #[] #[.pointer (some ⟨w.heap.size,0,none⟩)],.int .i64 2,.func (.func 31) #[] #[.pointer (some ⟨w.heap.size,0,none⟩)],.int .i64 3,.func (.func 27) #[] #[.pointer (some ⟨w.heap.size,0,none⟩),.pointer (some ⟨b2,0,none⟩),.pointer (some ⟨d2,0,none⟩)],.int .i64 4,.func (.func 27) #[] #[.pointer (some ⟨w.heap.size,0,none⟩),.pointer (some ⟨b3,0,none⟩),.pointer (some ⟨d3,0,none⟩)],.int .i64 5,.func (.func 27) #[] #[.pointer (some ⟨w.heap.size,0,none⟩),.pointer (some ⟨b4,0,none⟩),.pointer (some ⟨d4,0,none⟩)],.int .i64 6,.func (.func 27) #[] #[.pointer (some ⟨w.heap.size,0,none⟩),.pointer (some ⟨b5,0,none⟩),.pointer (some ⟨d5,0,none⟩)]] 73)
 have G5:=D5.alloc (.cells #[.int .i64 1,.func (.func 29) #[] #[.pointer (some ⟨w.heap.size,0,none⟩)],.int .i64 2,.func (.func 31) #[] #[.pointer (some ⟨w.heap.size,0,none⟩)],.int .i64 3,.func (.func 27) #[] #[.pointer (some ⟨w.heap.size,0,none⟩),.pointer (some ⟨b2,0,none⟩),.pointer (some ⟨d2,0,none⟩)],.int .i64 4,.func (.func 27) #[] #[.pointer (some ⟨w.heap.size,0,none⟩),.pointer (some ⟨b3,0,none⟩),.pointer (some ⟨d3,0,none⟩)],.int .i64 5,.func (.func 27) #[] #[.pointer (some ⟨w.heap.size,0,none⟩),.pointer (some ⟨b4,0,none⟩),.pointer (some ⟨d4,0,none⟩)],.int .i64 6,.func (.func 27) #[] #[.pointer (some ⟨w.heap.size,0,none⟩),.pointer (some ⟨b5,0,none⟩),.pointer (some ⟨d5,0,none⟩)]] 73)
 have hnb:w5.heap.size<(w5.alloc (.cells #[.int .i64 1,.func (.func 29) #[] #[.pointer (some ⟨w.heap.size,0,none⟩)],.int .i64 2,.func (.func 31) #[] #[.pointer (some ⟨w.heap.size,0,none⟩)],.int .i64 3,.func (.func 27) #[] #[.pointer (some ⟨w.heap.size,0,none⟩),.pointer (some ⟨b2,0,none⟩),.pointer (some ⟨d2,0,none⟩)],.int .i64 4,.func (.func 27) #[] #[.pointer (some ⟨w.heap.size,0,none⟩),.pointer (some ⟨b3,0,none⟩),.pointer (some ⟨d3,0,none⟩)],.int .i64 5,.func (.func 27) #[] #[.pointer (some ⟨w.heap.size,0,none⟩),.pointer (some ⟨b4,0,none⟩),.pointer (some ⟨d4,0,none⟩)],.int .i64 6,.func (.func 27) #[] #[.pointer (some ⟨w.heap.size,0,none⟩),.pointer (some ⟨b5,0,none⟩),.pointer (some ⟨d5,0,none⟩)]] 73)).heap.size:=by simp
 refine hK.out _ _ ?_ (λhHeld=> ?_)
 ·(try dsimp only);refine BH (W:=w1) ?_ l1 hcc;exact bm
 clear hK K k2 k3 k4 k5 B2 B3 B4 B5 D2 D3 D4 D5
 generalize w5.alloc (.cells #[.int .i64 1,.func (.func 29) #[] #[.pointer (some ⟨w.heap.size,0,none⟩)],.int .i64 2,.func (.func 31) #[] #[.pointer (some ⟨w.heap.size,0,none⟩)],.int .i64 3,.func (.func 27) #[] #[.pointer (some ⟨w.heap.size,0,none⟩),.pointer (some ⟨b2,0,none⟩),.pointer (some ⟨d2,0,none⟩)],.int .i64 4,.func (.func 27) #[] #[.pointer (some ⟨w.heap.size,0,none⟩),.pointer (some ⟨b3,0,none⟩),.pointer (some ⟨d3,0,none⟩)],.int .i64 5,.func (.func 27) #[] #[.pointer (some ⟨w.heap.size,0,none⟩),.pointer (some ⟨b4,0,none⟩),.pointer (some ⟨d4,0,none⟩)],.int .i64 6,.func (.func 27) #[] #[.pointer (some ⟨w.heap.size,0,none⟩),.pointer (some ⟨b5,0,none⟩),.pointer (some ⟨d5,0,none⟩)]] 73)=W0 at*
 generalize w5.heap.size=nb at*
 try simp only[List.getElem_toArray,List.getElem_cons_succ,List.getElem_cons_zero,Act.put,List.setIfInBounds_toArray,List.set_cons_zero,List.set_cons_succ]
 refine tk 25 ?_
 refine wpAnyH_done (by kernel_rfl) ?_ _
 have hb0:Hid (Below w.heap.size w W0):=Lib.hid (by have:=hb1.out;exact bm)
 have hin0:=vC.out.tr hb0.out
 have hp0:=qF WQ.out
 have HC2:Hid (∀W,Below W0.heap.size W0 W->Calls Tryz.prog 29 #[.pointer (some ⟨w.heap.size,0,none⟩)] W λe w'=>e=.returned (.tuple #[.string (aG (bQ (jq h))),.int .i64 0])/\Below W.heap.size W w'):=Lib.hid λW hb=>aaV h _ w.heap.size W (hin0.tr hb) (K0.tr hb) hp0.1 hp0.2.1 hp0.2.2.1
 have HC3:Hid (∀W,Below W0.heap.size W0 W->Calls Tryz.prog 31 #[.pointer (some ⟨w.heap.size,0,none⟩)] W λe w'=>e=.returned (.tuple #[.string (mJ h),.int .i64 0])/\Below W.heap.size W w'):=Lib.hid λW hb=>aaW h _ w.heap.size W (hin0.tr hb) (K0.tr hb) hp0.2.2.2.2.1 (by have:=hp0.2.2.2.1;omega)
 have HP1:Hid (∀W,Below W0.heap.size W0 W->Calls Tryz.prog 27 #[.pointer (some ⟨w.heap.size,0,none⟩),.pointer (some ⟨b2,0,none⟩),.pointer (some ⟨d2,0,none⟩)] W λe w'=>e=.returned (.tuple #[.string (fU h s 1),.int .i64 0])/\Below W.heap.size W w'):=Lib.hid λW hb=>Iq h _ s 1 (by omega) w.heap.size b2 d2 W (hin0.tr hb) WQ.out (K0.tr hb) (E2.tr hb) (G2.tr hb)
 have HP2:Hid (∀W,Below W0.heap.size W0 W->Calls Tryz.prog 27 #[.pointer (some ⟨w.heap.size,0,none⟩),.pointer (some ⟨b3,0,none⟩),.pointer (some ⟨d3,0,none⟩)] W λe w'=>e=.returned (.tuple #[.string (fU h s 2),.int .i64 0])/\Below W.heap.size W w'):=Lib.hid λW hb=>Iq h _ s 2 (by omega) w.heap.size b3 d3 W (hin0.tr hb) WQ.out (K0.tr hb) (E3.tr hb) (G3.tr hb)
 have HP3:Hid (∀W,Below W0.heap.size W0 W->Calls Tryz.prog 27 #[.pointer (some ⟨w.heap.size,0,none⟩),.pointer (some ⟨b4,0,none⟩),.pointer (some ⟨d4,0,none⟩)] W λe w'=>e=.returned (.tuple #[.string (fU h s 3),.int .i64 0])/\Below W.heap.size W w'):=Lib.hid λW hb=>Iq h _ s 3 (by omega) w.heap.size b4 d4 W (hin0.tr hb) WQ.out (K0.tr hb) (E4.tr hb) (G4.tr hb)
 have HP4:Hid (∀W,Below W0.heap.size W0 W->Calls Tryz.prog 27 #[.pointer (some ⟨w.heap.size,0,none⟩),.pointer (some ⟨b5,0,none⟩),.pointer (some ⟨d5,0,none⟩)] W λe w'=>e=.returned (.tuple #[.string (fU h s 4),.int .i64 0])/\Below W.heap.size W w'):=Lib.hid λW hb=>Iq h _ s 4 (by omega) w.heap.size b5 d5 W (hin0.tr hb) WQ.out (K0.tr hb) (E5.tr hb) (G5.tr hb)
 have HF:Hid (aK h s=[(1,aG (bQ (jq h))),(2,mJ h),(3,fU h s 1),(4,fU h s 2),(5,fU h s 3),(6,fU h s 4)]):=rfl
 have HJ:Hid (∀(v:Value)(W:World),fH 2 lI W v (aK h s)->Calls Tryz.prog 33 #[v] W λe w'=>e=.returned (.tuple #[.string (eH (aK h s)).1,.int .i64 (eH (aK h s)).2])/\Below W.heap.size W w'):=Lib.hid λv W hv=>J6 v (aK h s) W hv (by simp[aK]) (BG WQ.out hin0.base hin0.slow hin0.oM hin0.sold hin0.uX hin0.jd) Gv
 generalize aG (bQ (jq h))=X1 at*
 generalize mJ h=X2 at*
 generalize fU h s 1=X3 at*
 generalize fU h s 2=X4 at*
 generalize fU h s 3=X5 at*
 generalize fU h s 4=X6 at*
 obtain⟨FS,hFS⟩:∃F,F=aK h s:=⟨_,rfl⟩
 rw[<-hFS]at HF HJ
 obtain⟨JR,hJR⟩:∃J,J=eH FS:=⟨_,rfl⟩
 rw[<-hJR]at HJ
 have HJ2:Hid (JR=eH (aK h s)):=Lib.hid (hJR.trans (congrArg eH hFS))
 clear hFS hJR
 clear hp0 hin0 E2 E3 E4 E5 G2 G3 G4 G5 K0 K1 hcc l1 WQ vC kB hb1
 go_wp2_with fail
 have hsf:=JL Tryz.prog
 go_loopw [42,6] (λi l wr=>∃k:Nat,k<=6/\i=.int .i64 k/\Hid (ak 77 2 lI wr W0.heap.size l (FS.take k))/\Hid (Below W0.heap.size W0 wr)) (λi _ _=>6-(intOf i).toNat)
 case atStart=>exact⟨0,by omega,rfl,Lib.hid (ak.nil _ _),Lib.hid (Below.refl _ _)⟩
 case round=>
  obtain⟨k,hk,rfl,ho,hb⟩:=hrel
  have hsz:=hb.out.size
  have K7:=K6.tr hb.out
  obtain⟨l7,c7,f7⟩:=K7.get
  rcases(show k=0\/k=1\/k=2\/k=3\/k=4\/k=5\/k=6 by omega)with rfl|rfl|rfl|rfl|rfl|rfl|rfl
  ·have hsn:Hid (FS.take (0+1)=FS.take 0++[((0+1:Int),X1)]):=Lib.hid (by rw[HF.out];rfl)
   have hll:Hid ((FS.take 0).length+1<100000000000):=Lib.hid (by rw[HF.out];simp)
   have KL:aj (wr.alloc (.cells #[.int .i64 (0+1),.func (.func 29) #[] #[.pointer (some ⟨w.heap.size,0,none⟩)]] 73)) wr.heap.size #[.int .i64 (0+1),.func (.func 29) #[] #[.pointer (some ⟨w.heap.size,0,none⟩)]] 73:=aj.new _ _ _
   generalize FS.take 0=done at*
   go_wp2_with fail
   refine(HC2.out _ (by have:=hb.out;exact bm)).mono ?_;rintro e w3 ⟨rfl,k3⟩
   replace KL:=KL.tr k3
   obtain⟨lL,cL,fL⟩:=KL.get
   have EJ:Hid (ak 77 2 lI w3 W0.heap.size u6 done):=Lib.hid (ho.out.tr (by exact bm))
   have HB3:Hid (Below W0.heap.size W0 w3):=Lib.hid (by have:=hb.out;exact bm)
   clear k3 ho hb
   go_wp2_with (at_builtin;refine jV _ rfl _ _ rfl W0.heap.size _ _ done ((0+1:Int),X1) rfl rfl ?d0 ?d1 hll.out ?d3 ?d4)
   case d0=>exact EJ.out.tr (by exact bm)
   case d1=>refine jC _ ((0+1:Int),X1) _ rfl _ ?_;try simp
   case d3=>have:=HB3.out.size;simp;omega
   case d4=>
   intro v' w4 tY hg hat
   have H2:Hid (ak 77 2 lI w4 W0.heap.size v' (done++[((0+1:Int),X1)])):=Lib.hid tY
   have H3:Hid (Below W0.heap.size W0 w4):=Lib.hid (ni hg (by have:=HB3.out.size;simp;omega) EJ.out.block|>λh=>Below.trans (by have:=HB3.out;exact bm) h)
   clear tY hg hat EJ HB3
   go_wp2_with fail
   exact⟨⟨0+1,by omega,by go_num,Lib.hid (by rw[hsn.out];exact H2.out),H3⟩,by simp[intOf]⟩
  ·have hsn:Hid (FS.take (1+1)=FS.take 1++[((1+1:Int),X2)]):=Lib.hid (by rw[HF.out];rfl)
   have hll:Hid ((FS.take 1).length+1<100000000000):=Lib.hid (by rw[HF.out];simp)
   have KL:aj (wr.alloc (.cells #[.int .i64 (1+1),.func (.func 31) #[] #[.pointer (some ⟨w.heap.size,0,none⟩)]] 73)) wr.heap.size #[.int .i64 (1+1),.func (.func 31) #[] #[.pointer (some ⟨w.heap.size,0,none⟩)]] 73:=aj.new _ _ _
   generalize FS.take 1=done at*
   go_wp2_with fail
   refine(HC3.out _ (by have:=hb.out;exact bm)).mono ?_;rintro e w3 ⟨rfl,k3⟩
   replace KL:=KL.tr k3
   obtain⟨lL,cL,fL⟩:=KL.get
   have EJ:Hid (ak 77 2 lI w3 W0.heap.size u6 done):=Lib.hid (ho.out.tr (by exact bm))
   have HB3:Hid (Below W0.heap.size W0 w3):=Lib.hid (by have:=hb.out;exact bm)
   clear k3 ho hb
   go_wp2_with (at_builtin;refine jV _ rfl _ _ rfl W0.heap.size _ _ done ((1+1:Int),X2) rfl rfl ?d0 ?d1 hll.out ?d3 ?d4)
   case d0=>exact EJ.out.tr (by exact bm)
   case d1=>refine jC _ ((1+1:Int),X2) _ rfl _ ?_;try simp
   case d3=>have:=HB3.out.size;simp;omega
   case d4=>
   intro v' w4 tY hg hat
   have H2:Hid (ak 77 2 lI w4 W0.heap.size v' (done++[((1+1:Int),X2)])):=Lib.hid tY
   have H3:Hid (Below W0.heap.size W0 w4):=Lib.hid (ni hg (by have:=HB3.out.size;simp;omega) EJ.out.block|>λh=>Below.trans (by have:=HB3.out;exact bm) h)
   clear tY hg hat EJ HB3
   go_wp2_with fail
   exact⟨⟨1+1,by omega,by go_num,Lib.hid (by rw[hsn.out];exact H2.out),H3⟩,by simp[intOf]⟩
  ·have hsn:Hid (FS.take (2+1)=FS.take 2++[((2+1:Int),X3)]):=Lib.hid (by rw[HF.out];rfl)
   have hll:Hid ((FS.take 2).length+1<100000000000):=Lib.hid (by rw[HF.out];simp)
   have KL:aj (wr.alloc (.cells #[.int .i64 (2+1),.func (.func 27) #[] #[.pointer (some ⟨w.heap.size,0,none⟩),.pointer (some ⟨b2,0,none⟩),.pointer (some ⟨d2,0,none⟩)]] 73)) wr.heap.size #[.int .i64 (2+1),.func (.func 27) #[] #[.pointer (some ⟨w.heap.size,0,none⟩),.pointer (some ⟨b2,0,none⟩),.pointer (some ⟨d2,0,none⟩)]] 73:=aj.new _ _ _
   generalize FS.take 2=done at*
   go_wp2_with fail
   refine(HP1.out _ (by have:=hb.out;exact bm)).mono ?_;rintro e w3 ⟨rfl,k3⟩
   replace KL:=KL.tr k3
   obtain⟨lL,cL,fL⟩:=KL.get
   have EJ:Hid (ak 77 2 lI w3 W0.heap.size u6 done):=Lib.hid (ho.out.tr (by exact bm))
   have HB3:Hid (Below W0.heap.size W0 w3):=Lib.hid (by have:=hb.out;exact bm)
   clear k3 ho hb
   go_wp2_with (at_builtin;refine jV _ rfl _ _ rfl W0.heap.size _ _ done ((2+1:Int),X3) rfl rfl ?d0 ?d1 hll.out ?d3 ?d4)
   case d0=>exact EJ.out.tr (by exact bm)
   case d1=>refine jC _ ((2+1:Int),X3) _ rfl _ ?_;try simp
   case d3=>have:=HB3.out.size;simp;omega
   case d4=>
   intro v' w4 tY hg hat
   have H2:Hid (ak 77 2 lI w4 W0.heap.size v' (done++[((2+1:Int),X3)])):=Lib.hid tY
   have H3:Hid (Below W0.heap.size W0 w4):=Lib.hid (ni hg (by have:=HB3.out.size;simp;omega) EJ.out.block|>λh=>Below.trans (by have:=HB3.out;exact bm) h)
   clear tY hg hat EJ HB3
   go_wp2_with fail
   exact⟨⟨2+1,by omega,by go_num,Lib.hid (by rw[hsn.out];exact H2.out),H3⟩,by simp[intOf]⟩
  ·have hsn:Hid (FS.take (3+1)=FS.take 3++[((3+1:Int),X4)]):=Lib.hid (by rw[HF.out];rfl)
   have hll:Hid ((FS.take 3).length+1<100000000000):=Lib.hid (by rw[HF.out];simp)
   have KL:aj (wr.alloc (.cells #[.int .i64 (3+1),.func (.func 27) #[] #[.pointer (some ⟨w.heap.size,0,none⟩),.pointer (some ⟨b3,0,none⟩),.pointer (some ⟨d3,0,none⟩)]] 73)) wr.heap.size #[.int .i64 (3+1),.func (.func 27) #[] #[.pointer (some ⟨w.heap.size,0,none⟩),.pointer (some ⟨b3,0,none⟩),.pointer (some ⟨d3,0,none⟩)]] 73:=aj.new _ _ _
   generalize FS.take 3=done at*
   go_wp2_with fail
   refine(HP2.out _ (by have:=hb.out;exact bm)).mono ?_;rintro e w3 ⟨rfl,k3⟩
   replace KL:=KL.tr k3
   obtain⟨lL,cL,fL⟩:=KL.get
   have EJ:Hid (ak 77 2 lI w3 W0.heap.size u6 done):=Lib.hid (ho.out.tr (by exact bm))
   have HB3:Hid (Below W0.heap.size W0 w3):=Lib.hid (by have:=hb.out;exact bm)
   clear k3 ho hb
   go_wp2_with (at_builtin;refine jV _ rfl _ _ rfl W0.heap.size _ _ done ((3+1:Int),X4) rfl rfl ?d0 ?d1 hll.out ?d3 ?d4)
   case d0=>exact EJ.out.tr (by exact bm)
   case d1=>refine jC _ ((3+1:Int),X4) _ rfl _ ?_;try simp
   case d3=>have:=HB3.out.size;simp;omega
   case d4=>
   intro v' w4 tY hg hat
   have H2:Hid (ak 77 2 lI w4 W0.heap.size v' (done++[((3+1:Int),X4)])):=Lib.hid tY
   have H3:Hid (Below W0.heap.size W0 w4):=Lib.hid (ni hg (by have:=HB3.out.size;simp;omega) EJ.out.block|>λh=>Below.trans (by have:=HB3.out;exact bm) h)
   clear tY hg hat EJ HB3
   go_wp2_with fail
   exact⟨⟨3+1,by omega,by go_num,Lib.hid (by rw[hsn.out];exact H2.out),H3⟩,by simp[intOf]⟩
  ·have hsn:Hid (FS.take (4+1)=FS.take 4++[((4+1:Int),X5)]):=Lib.hid (by rw[HF.out];rfl)
   have hll:Hid ((FS.take 4).length+1<100000000000):=Lib.hid (by rw[HF.out];simp)
   have KL:aj (wr.alloc (.cells #[.int .i64 (4+1),.func (.func 27) #[] #[.pointer (some ⟨w.heap.size,0,none⟩),.pointer (some ⟨b4,0,none⟩),.pointer (some ⟨d4,0,none⟩)]] 73)) wr.heap.size #[.int .i64 (4+1),.func (.func 27) #[] #[.pointer (some ⟨w.heap.size,0,none⟩),.pointer (some ⟨b4,0,none⟩),.pointer (some ⟨d4,0,none⟩)]] 73:=aj.new _ _ _
   generalize FS.take 4=done at*
   go_wp2_with fail
   refine(HP3.out _ (by have:=hb.out;exact bm)).mono ?_;rintro e w3 ⟨rfl,k3⟩
   replace KL:=KL.tr k3
   obtain⟨lL,cL,fL⟩:=KL.get
   have EJ:Hid (ak 77 2 lI w3 W0.heap.size u6 done):=Lib.hid (ho.out.tr (by exact bm))
   have HB3:Hid (Below W0.heap.size W0 w3):=Lib.hid (by have:=hb.out;exact bm)
   clear k3 ho hb
   go_wp2_with (at_builtin;refine jV _ rfl _ _ rfl W0.heap.size _ _ done ((4+1:Int),X5) rfl rfl ?d0 ?d1 hll.out ?d3 ?d4)
   case d0=>exact EJ.out.tr (by exact bm)
   case d1=>refine jC _ ((4+1:Int),X5) _ rfl _ ?_;try simp
   case d3=>have:=HB3.out.size;simp;omega
   case d4=>
   intro v' w4 tY hg hat
   have H2:Hid (ak 77 2 lI w4 W0.heap.size v' (done++[((4+1:Int),X5)])):=Lib.hid tY
   have H3:Hid (Below W0.heap.size W0 w4):=Lib.hid (ni hg (by have:=HB3.out.size;simp;omega) EJ.out.block|>λh=>Below.trans (by have:=HB3.out;exact bm) h)
   clear tY hg hat EJ HB3
   go_wp2_with fail
   exact⟨⟨4+1,by omega,by go_num,Lib.hid (by rw[hsn.out];exact H2.out),H3⟩,by simp[intOf]⟩
  ·have hsn:Hid (FS.take (5+1)=FS.take 5++[((5+1:Int),X6)]):=Lib.hid (by rw[HF.out];rfl)
   have hll:Hid ((FS.take 5).length+1<100000000000):=Lib.hid (by rw[HF.out];simp)
   have KL:aj (wr.alloc (.cells #[.int .i64 (5+1),.func (.func 27) #[] #[.pointer (some ⟨w.heap.size,0,none⟩),.pointer (some ⟨b5,0,none⟩),.pointer (some ⟨d5,0,none⟩)]] 73)) wr.heap.size #[.int .i64 (5+1),.func (.func 27) #[] #[.pointer (some ⟨w.heap.size,0,none⟩),.pointer (some ⟨b5,0,none⟩),.pointer (some ⟨d5,0,none⟩)]] 73:=aj.new _ _ _
   generalize FS.take 5=done at*
   go_wp2_with fail
   refine(HP4.out _ (by have:=hb.out;exact bm)).mono ?_;rintro e w3 ⟨rfl,k3⟩
   replace KL:=KL.tr k3
   obtain⟨lL,cL,fL⟩:=KL.get
   have EJ:Hid (ak 77 2 lI w3 W0.heap.size u6 done):=Lib.hid (ho.out.tr (by exact bm))
   have HB3:Hid (Below W0.heap.size W0 w3):=Lib.hid (by have:=hb.out;exact bm)
   clear k3 ho hb
   go_wp2_with (at_builtin;refine jV _ rfl _ _ rfl W0.heap.size _ _ done ((5+1:Int),X6) rfl rfl ?d0 ?d1 hll.out ?d3 ?d4)
   case d0=>exact EJ.out.tr (by exact bm)
   case d1=>refine jC _ ((5+1:Int),X6) _ rfl _ ?_;try simp
   case d3=>have:=HB3.out.size;simp;omega
   case d4=>
   intro v' w4 tY hg hat
   have H2:Hid (ak 77 2 lI w4 W0.heap.size v' (done++[((5+1:Int),X6)])):=Lib.hid tY
   have H3:Hid (Below W0.heap.size W0 w4):=Lib.hid (ni hg (by have:=HB3.out.size;simp;omega) EJ.out.block|>λh=>Below.trans (by have:=HB3.out;exact bm) h)
   clear tY hg hat EJ HB3
   go_wp2_with fail
   exact⟨⟨5+1,by omega,by go_num,Lib.hid (by rw[hsn.out];exact H2.out),H3⟩,by simp[intOf]⟩
  ·have ho2:ak 77 2 lI wr W0.heap.size u6 FS:=by
    have:=ho.out
    rw[show FS.take 6=FS by rw[HF.out];rfl]at this
    exact this
   have HO:=Lib.hid ho2
   clear ho ho2
   go_wp2_with fail
   refine(HJ.out _ _ (HO.out.sees (λ_=>rfl))).mono ?_;rintro e w3 ⟨rfl,k3⟩
   go_wp2_with fail
   go_ret2
   refine⟨by rw[<-HJ2.out];rfl,?_⟩
   have h1:=hb0.out
   have h2:=hb.out
   exact bm
end Go.Proofs.YtpgjploaliefdaaGreat.im
namespace Go.Proofs.YtpgjploaliefdaaGreat.im
open Go Go.RowKit cm cw ga gr hp ob hd cp ck
open fr (aG aW bQ aF iJ eH iC iQ fF oN jM pz)
set_option linter.unusedVariables false
set_option linter.unusedSimpArgs false
set_option maxRecDepth 100000
def h0:Hp:=⟨0,0,0,false,0,[],[],[],[],[]⟩
def h1:Hp:=⟨10,5,0,false,2,[2,6],[],[],[],[21]⟩
def Zg:Ob:=⟨0,1,0,false,0⟩
def s1:dS:=(((dS.nil.note h1.lay 1 [Zg]).note h1.lay 2 []).note h1.lay 3 []).note h1.lay 4 []
theorem ahu:dZ h0=none:=by kernel_rfl
theorem adL:dZ h1=some s1:=by kernel_rfl
theorem Kv{n:Nat}(h:n<128):uP n=[UInt8.ofNat n]:=by
 unfold uP
 rw[iJ h]
 rfl
theorem Yf:aG (bQ (jq h1))=⟨#[1,10,5,0,0,2]⟩:=by
 show aG ([1,10,5,0,0,2].flatMap aW)=_
 simp only[List.flatMap_cons,List.flatMap_nil]
 repeat rw[iJ (by decide)]
 rfl
theorem VO:mJ h1=⟨#[1,10]⟩:=by
 show aG (aW 1)++⟨(bn [21]).toArray⟩=_
 unfold bn
 simp only[List.flatMap_cons,List.flatMap_nil]
 rw[iJ (by decide),show(gB 21).toNat=10 from rfl,Kv (by decide)]
 rfl
theorem aaZ:gy [2,6] Zg=[0,1,0,6,0,0,0,0,0,0,0]:=by
 show(aG ([0,1,0].flatMap aW)).data.toList++bn []++BD [6]=_
 simp only[List.flatMap_cons,List.flatMap_nil]
 repeat rw[iJ (by decide)]
 rfl
theorem Zh:fU h1 s1 1=⟨#[1,0,1,0,6,0,0,0,0,0,0,0]⟩:=by
 show(⟨(uP 1++[Zg].flatMap (gy [2,6])).toArray⟩:ByteArray)=_
 simp only[List.flatMap_cons,List.flatMap_nil]
 rw[aaZ,Kv (by decide)]
 rfl
theorem VP(q:Nat)(hq:q=2\/q=3\/q=4):fU h1 s1 q=⟨#[0]⟩:=by
 rcases hq with rfl|rfl|rfl
 all_goals
  show(⟨(uP 0++[]).toArray⟩:ByteArray)=_
  rw[Kv (by decide)]
  rfl
theorem adM:uU [2,6] [Zg]=(⟨#[1,0,1,0,6,0,0,0,0,0,0,0]⟩,0):=by
 have:=Ip adL 1 (by decide)
 rw[Zh]at this
 exact this
theorem adN:uU [2] []=(⟨#[]⟩,1):=rfl
theorem adO:jO [0,11]=(⟨#[0,5]⟩,0):=by
 have:bn [0,11]=[0,5]:=by
  unfold bn
  simp only[List.flatMap_cons,List.flatMap_nil]
  rw[show(gB 0).toNat=0 from rfl,show(gB 11).toNat=5 from rfl,Kv (by decide),Kv (by decide)]
  rfl
 unfold jO
 rw[if_pos (by decide),this]
theorem adP:jO [4]=(⟨#[]⟩,3):=rfl
theorem Zi{id:Nat}{b:ByteArray}(h:b.size<128):oN id b=aG [id]++aG [b.size]++b:=by
 unfold oN
 rw[iJ h]
theorem VQ{id:Nat}{b:ByteArray}(h:b.size<128):(fF id b).data.toList.length=b.size+6:=by
 rw[Array.length_toList]
 show(fF id b).size=_
 unfold fF jM
 rw[Zi h]
 simp only[ByteArray.size_append,aF,List.length_cons,List.length_nil]
 have h4:∀x,(le4 x).length=4:=λx=>rfl
 rw[h4]
 omega
theorem BI:aK h1 s1=[(1,⟨#[1,10,5,0,0,2]⟩),(2,⟨#[1,10]⟩),(3,⟨#[1,0,1,0,6,0,0,0,0,0,0,0]⟩),(4,⟨#[0]⟩),(5,⟨#[0]⟩),(6,⟨#[0]⟩)]:=by
 unfold aK
 rw[Yf,VO,Zh,VP 2 (by decide),VP 3 (by decide),VP 4 (by decide)]
theorem adQ:∀f∈aK h1 s1,pz f:=by
 rw[BI]
 decide
theorem VR:(fF 1 ⟨#[1,10,5,0,0,2]⟩).data.toList.take 8=[1,6,1,10,5,0,0,2]:=by
 unfold fF
 rw[Zi (by decide)]
 generalize jM _=Z
 show(((aG [1]++aG [6]++⟨#[1,10,5,0,0,2]⟩:ByteArray)++Z).data.toList).take 8=_
 rw[ByteArray.data_append,Array.toList_append,List.take_append_of_le_length (by decide)]
 rfl
theorem ahv:∃d:ByteArray,eH (aK h1 s1)=(d,0)/\d.size=59/\d.extract 0 8=⟨#[1,6,1,10,5,0,0,2]⟩:=by
 refine⟨_,if_pos adQ,?_,?_⟩
 ·show((iC (aK h1 s1)).toArray).size=59
  rw[BI]
  unfold iC iQ
  simp only[List.size_toArray,List.flatMap_cons,List.flatMap_nil,List.length_append,List.length_nil]
  repeat rw[VQ (by decide)]
  rfl
 ·apply ByteArray.ext
  apply Array.toList_inj.1
  rw[ByteArray.data_extract]
  show(((iC (aK h1 s1)).toArray).extract 0 8).toList=_
  rw[Array.toList_extract,List.extract_eq_take_drop,List.drop_zero,BI]
  unfold iC iQ
  simp only[List.flatMap_cons]
  show List.take 8 _=_
  rw[List.take_append_of_le_length (by rw[VQ (by decide)];decide)]
  exact VR
end Go.Proofs.YtpgjploaliefdaaGreat.im
namespace Go.Proofs.YtpgjploaliefdaaGreat.im
open Go Go.RowKit cm cw ga gr hp ob hd cp ck
open fr (eH)
set_option linter.unusedVariables false
set_option linter.unusedSimpArgs false
set_option maxRecDepth 100000
set_option maxHeartbeats 4000000
theorem Yg(w:World)(o:Ob)(b:Nat)(h:aj w b (dG o).toArray 58):bT w (.slice (some ⟨b,0,none⟩) 1 1) [o]:=by
 obtain⟨lb,cb,fb⟩:=h.get
 refine⟨some ⟨b,0,none⟩,b,0,1,rfl,⟨λ_=>rfl,λe=>by cases e⟩,Nat.le_refl _,(by simp),lb,ig.of λi hi=> ?_⟩
 obtain rfl:i=0:=by simp at hi;exact hi
 have key:∀j u,(dG o)[j]? =some u->w.cell? ⟨b,0+0*5+j,none⟩=some u:=by
  intro j u hu
  rw[cb]
  simpa using hu
 exact⟨key 0 _ rfl,key 1 _ rfl,key 2 _ rfl,key 3 _ rfl,key 4 _ rfl⟩
theorem tq(w:World)(zs:List Int)(cs:Array Value)(b:Nat)(h:aj w b cs 24)(hc:cs=(zs.map λn:Int=>Value.int .u64 n).toArray)(h0:zs.length<1000)(hp:0<zs.length):aN w (.slice (some ⟨b,0,none⟩) zs.length zs.length) zs:=by
 obtain⟨lb,cb,fb⟩:=h.get
 refine⟨some ⟨b,0,none⟩,b,0,zs.length,rfl,⟨λ_=>rfl,λe=>by cases e⟩,Nat.le_refl _,by omega,lb,jH λi hi=> ?_⟩
 rw[Nat.zero_add,cb,hc]
 simp[List.getD,hi]
theorem lG{zs:List Int}(h:∀z∈zs,0<=z/\z<18446744073709551616):Small zs:=λi=>by
 simp only[List.getD]
 by_cases hi:i<zs.length
 ·rw[List.getElem?_eq_getElem hi]
  exact h _ (List.getElem_mem hi)
 ·rw[List.getElem?_eq_none (by omega)]
  exact⟨by decide,by decide⟩
theorem hin0(w:World)(hz:0<w.heap.size):kH w h0 ⟨.slice none 0 0,.slice none 0 0,.slice none 0 0,.slice none 0 0,.slice none 0 0⟩:=by
 have hs:Small []:=lG (λz hz=>by cases hz)
 exact⟨⟨by decide,by decide⟩,⟨by decide,by decide⟩,⟨by decide,by decide⟩,⟨by decide,by decide⟩,aN.nil ‹_›,aN.nil ‹_›,aN.nil ‹_›,aN.nil ‹_›,aN.nil ‹_›,hs,hs,hs,hs,hs⟩
theorem hin1(w:World)(vl vr:Value)(hl:aN w vl [2,6])(hr:aN w vr [21])(hz:0<w.heap.size):kH w h1 ⟨vl,.slice none 0 0,.slice none 0 0,.slice none 0 0,vr⟩:=by
 have hs:Small []:=lG (λz hz=>by cases hz)
 exact⟨⟨by decide,by decide⟩,⟨by decide,by decide⟩,⟨by decide,by decide⟩,⟨by decide,by decide⟩,hl,aN.nil ‹_›,aN.nil ‹_›,aN.nil ‹_›,hr,lG (by decide),hs,hs,hs,lG (by decide)⟩
theorem tg1:OL [Zg]:=λo ho=>by
 obtain rfl:o=Zg:=by simpa using ho
 decide
theorem aa0:∀(W:World)(b b2:Nat),aj W b #[.int .u64 2,.int .u64 6] 24->aj W b2 #[.int .i64 0,.int .i64 1,.int .i64 0,.bool false,.int .u64 0] 58->Calls Tryz.prog 15 #[.slice (some ⟨b,0,none⟩) 2 2,.slice (some ⟨b2,0,none⟩) 1 1] W λe w'=>e=.returned (.tuple #[.string ⟨#[1,0,1,0,6,0,0,0,0,0,0,0]⟩,.int .i64 0])/\Below W.heap.size W w':=
 λW b b2 B1 B2=>by
  have:=Ac _ _ [2,6] [Zg] W (tq W [2,6] _ b B1 rfl (by decide) (by decide)) (lG (by decide)) (Yg W Zg b2 B2) tg1 (by decide) (by decide)
  rw[adM]at this
  exact this
theorem aa1:∀(W:World)(b:Nat),aj W b #[.int .u64 2] 24->Calls Tryz.prog 15 #[.slice (some ⟨b,0,none⟩) 1 1,.slice none 0 0] W λe w'=>e=.returned (.tuple #[.string ⟨#[]⟩,.int .i64 1])/\Below W.heap.size W w':=
 λW b B1=>by
  have:=Ac _ _ [2] [] W (tq W [2] _ b B1 rfl (by decide) (by decide)) (lG (by decide)) (bT.nil (Nat.lt_of_le_of_lt (Nat.zero_le _) B1.lt)) (λo ho=>by cases ho) (by decide) (by decide)
  rw[adN]at this
  exact this
theorem aa2:∀(W:World)(b:Nat),aj W b #[.int .u64 0,.int .u64 11] 24->Calls Tryz.prog 17 #[.slice (some ⟨b,0,none⟩) 2 2] W λe w'=>e=.returned (.tuple #[.string ⟨#[0,5]⟩,.int .i64 0])/\Below W.heap.size W w':=
 λW b B1=>by
  have:=wK _ [0,11] W (tq W [0,11] _ b B1 rfl (by decide) (by decide)) (lG (by decide)) (by decide)
  rw[adO]at this
  exact this
theorem aa3:∀(W:World)(b:Nat),aj W b #[.int .u64 4] 24->Calls Tryz.prog 17 #[.slice (some ⟨b,0,none⟩) 1 1] W λe w'=>e=.returned (.tuple #[.string ⟨#[]⟩,.int .i64 3])/\Below W.heap.size W w':=
 λW b B1=>by
  have:=wK _ [4] W (tq W [4] _ b B1 rfl (by decide) (by decide)) (lG (by decide)) (by decide)
  rw[adP]at this
  exact this
theorem aa4:∀(W:World),0<W.heap.size->Calls Tryz.prog 10 #[.agg #[.int .u64 0,.int .i64 0,.int .i64 0,.bool false,.int .i64 0,.slice none 0 0,.slice none 0 0,.slice none 0 0,.slice none 0 0,.slice none 0 0]] W λe w'=>e=.returned (.tuple #[.string ⟨#[]⟩,.int .i64 1])/\Below W.heap.size W w':=
 λW hW=>Gx h0 ⟨.slice none 0 0,.slice none 0 0,.slice none 0 0,.slice none 0 0,.slice none 0 0⟩ W (hin0 W hW) ahu
theorem aa5{d:ByteArray}(hd1:eH (aK h1 s1)=(d,0)):∀(W:World)(b b2:Nat),aj W b #[.int .u64 2,.int .u64 6] 24->aj W b2 #[.int .u64 21] 24->Calls Tryz.prog 10 #[.agg #[.int .u64 10,.int .i64 5,.int .i64 0,.bool false,.int .i64 2,.slice (some ⟨b,0,none⟩) 2 2,.slice none 0 0,.slice none 0 0,.slice none 0 0,.slice (some ⟨b2,0,none⟩) 1 1]] W λe w'=>e=.returned (.tuple #[.string d,.int .i64 0])/\Below W.heap.size W w':=
 λW b b2 B1 B2=>by
  have:=Gy h1 ⟨.slice (some ⟨b,0,none⟩) 2 2,.slice none 0 0,.slice none 0 0,.slice none 0 0,.slice (some ⟨b2,0,none⟩) 1 1⟩ s1 W (hin1 W _ _ (tq W [2,6] _ b B1 rfl (by decide) (by decide)) (tq W [21] _ b2 B2 rfl (by decide) (by decide)) (Nat.lt_of_le_of_lt (Nat.zero_le _) B1.lt)) adL
  rw[hd1]at this
  exact this
theorem RN(w:World):Calls Tryz.prog 6 #[] w λe w'=>e=.returned (.bool true)/\Below w.heap.size w w'/\0<w'.heap.size:=by
 have EU:=Lib.hid aa0
 have ZE:=Lib.hid aa1
 have HR1:=Lib.hid aa2
 have HR2:=Lib.hid aa3
 have HD0:=Lib.hid aa4
 obtain⟨d,hd1,hd2,hd3⟩:=ahv
 have HD1:=Lib.hid (aa5 hd1)
 have h8:(8:Int)<=(d.size:Int):=by omega
 have HS:=Lib.hid hd2
 have HE:=Lib.hid hd3
 clear hd1 hd3
 go_enter Tryz.func6,Tryz.ntmps6
 go_wp2_with fail
 refine(EU.out _ _ _ ?_ ?_).mono ?_
 ·exact bk
 ·exact bk
 rintro e w1 ⟨rfl,k1⟩
 go_wp2_with fail
 refine(ZE.out _ _ ?_).mono ?_
 ·exact bk
 rintro e w2 ⟨rfl,k2⟩
 go_wp2_with fail
 refine(HR1.out _ _ ?_).mono ?_
 ·exact bk
 rintro e w3 ⟨rfl,k3⟩
 go_wp2_with fail
 refine(HR2.out _ _ ?_).mono ?_
 ·exact bk
 rintro e w4 ⟨rfl,k4⟩
 have hz:0<w4.heap.size:=by have:=k4.size;simp at this;omega
 go_wp2_with fail
 refine(HD0.out _ hz).mono ?_
 rintro e w5 ⟨rfl,k5⟩
 go_wp2_with fail
 refine(HD1.out _ _ _ ?_ ?_).mono ?_
 ·exact bk
 ·exact bk
 rintro e w6 ⟨rfl,k6⟩
 go_wp2_with fail
 go_ret
 refine iy (by rw[HE.out];kernel_rfl) ⟨?_,?_⟩
 ·exact bm
 ·have:=k5.size;have:=k6.size;simp at this;omega
end Go.Proofs.YtpgjploaliefdaaGreat.im
