/- A wait group's words, as trees of the phase. No conditions. -/
import Derived.Test.YtlncengggmgdgaaGreatG14
set_option linter.unusedVariables false
set_option linter.unusedSimpArgs false
set_option maxRecDepth 100000
namespace Go.Proofs.YtlncengggmgdgaaGreat.par
open Go Go.Conc Go.RowKit Go.Conc.Lib Go.ConcR.Gen Go.ConcN.Gen
open Go.ConcR (stA smA WgAt KK rd wr mk DC0)
theorem OT.rH{P:Program}{main:Bool}{Env:(Nat->Prop)->World->World->Prop}{Gu:(Nat->Prop)->World->World->Array Event->Prop}{Stop Stop':(Nat->Prop)->Nat->Goroutine->World->Prop}{O:Nat->Prop}{d:Nat}{g:Goroutine}{w:World}
  (h:OT P main Env Gu Stop O d g w) (hs:∀O d g w,(∀w₁,Env O w w₁->Stop O d g w₁)->OT P main Env Gu Stop' O d g w):OT P main Env Gu Stop' O d g w:=by
 induction h with
 |stop h=>exact hs _ _ _ _ h
 |step hr g' w' es h hg _ ih=>exact .step hr g' w' es h hg ih
namespace gW
variable {A : gW}
structure Kn(A:gW)(O0:Nat->Prop)(I:World->Prop):Prop where
 live:∀w,I w->A.Live w
 rely:∀O,(∀b,O0 b->O b)->∀w w₁,A.Env O w w₁->I w->I w₁
 same:∀w w',w'.heap=w.heap->w'.tape=w.tape->w'.os=w.os->w'.output=w.output->I w->I w'
 set:∀w a u,a.block=A.Wg\/a.block=A.wB->I w->A.Live (w.setCell a u)->I (w.setCell a u)
 ne:A.wB≠A.Wg
section
variable {O0 : Nat → Prop} {I : World → Prop}
theorem Kn.wg(h:A.Kn O0 I){w:World}(hI:I w):∃st sm,WgAt A.tW A.Wg w st sm:=(h.live w hI).1.1
theorem Kn.setSt(h:A.Kn O0 I){w:World}(hI:I w){st sm:Int}(hw:WgAt A.tW A.Wg w st sm)(v:Int):I (w.setCell (stA A.Wg) (.int .u64 v)):=by
 refine h.set _ _ _ (.inl rfl) hI ⟨⟨⟨_,_,hw.setSt v⟩,?_⟩,gy (h.live w hI).2 (.inl rfl) _⟩
 obtain⟨v',hv⟩:=(h.live w hI).1.2
 exact⟨v',(iY w (stA A.Wg) _ h.ne).trans hv⟩
theorem Kn.setSm(h:A.Kn O0 I){w:World}(hI:I w){st sm:Int}(hw:WgAt A.tW A.Wg w st sm)(v:Int):I (w.setCell (smA A.Wg) (.int .u32 v)):=by
 refine h.set _ _ _ (.inl rfl) hI ⟨⟨⟨_,_,hw.setSm v⟩,?_⟩,gy (h.live w hI).2 (.inl rfl) _⟩
 obtain⟨v',hv⟩:=(h.live w hI).1.2
 exact⟨v',(iY w (smA A.Wg) _ h.ne).trans hv⟩
theorem Kn.setB(h:A.Kn O0 I){w:World}(hI:I w){v:Int}(hw:A.WB v w)(v':Int):I (w.setCell A.Pz (.int .i64 v')):=by
 refine h.set _ _ _ (.inr rfl) hI ⟨⟨?_,_,WB.set hw v'⟩,gy (h.live w hI).2 (.inr rfl) _⟩
 obtain⟨st,sm,hv⟩:=h.wg hI
 exact⟨st,sm,hv.of_block (iY w A.Pz _ λe=>h.ne e.symm)⟩
theorem EY{w w':World}{es:Array Event}(h:DC0 w w' es):∀e∈es,e.loc≠ .mark .disable/\e.loc≠ .mark .enable:=by
 obtain⟨_,rfl⟩:=h
 exactλe he=>absurd he (by simp)
variable {main : Bool} {S : Goroutine → World → Prop} {n : Nat} {g : Goroutine} {O : Nat → Prop} {d : Nat} {w : World}
theorem Kn.quiet(h:A.Kn O0 I)(hg:wR A.P false I S n g)(hO:∀b,O0 b->O b)(hI:I w):A.LQ (λO' d' g w=>d'=d/\(∀b,O0 b->O' b)/\I w/\S g w) O d g w:=
 OT.weaken (λO' d' g w⟨a,b,c⟩=>⟨a,λx hx=>b x (hO x hx),c⟩) (dw.ot (O0:=O0) hg (dO.refl Aj) h.rely (λw w' es⟨h1,_⟩hI=>h1▸hI) (λ_ _ _=>EY) (λ_ _ _ _ _⟨h1,h2⟩=>⟨h1,by subst h2;exactλe he=>absurd he (by simp)⟩) hO hI)
theorem Kn.gut{Sh:Nat->Prop}{z:Prop}{w w':World}{es:Array Event}(h:DC0 w w' es):Gn A.Rd Sh z O w w' es:=by
 obtain⟨rfl,rfl⟩:=h
 exact⟨rfl,rfl,rfl,Nat.le_refl _,λ_ _ _=>rfl,λe he=>absurd he (by simp)⟩
theorem Kn.first(h:A.Kn O0 I)(hg:wR A.P true I S n g)(hO:∀b,O0 b->O b)(hI:I w):A.LM (λO' d' g w=>d'=d/\(∀b,O b->O' b)/\I w/\S g w) O d g w:=
 dw.ot (O0:=O0) hg (dO.refl Aj) h.rely (λw w' es⟨h1,_⟩hI=>h1▸hI) (λ_ _ _=>EY) (λ_ _ _ _ _ hd=>Kn.gut hd) hO hI
theorem Kn.looks{fb:Nat}(h:A.Kn O0 I)(hfb:O0 fb)(hg:dw A.P main I (DL A.Rd fb) S n g)(z:Prop)(hO:∀b,O0 b->O b)(hI:I w):OT A.P main A.Env (Gn A.Rd A.Sh z) (λO' d' g w=>d'=d/\(∀b,O b->O' b)/\I w/\S g w) O d g w:=
 dw.ot (O0:=O0) hg (dO.refl Aj) h.rely (λw w' es hd hI=>h.same _ _ hd.heap hd.tape hd.os hd.output hI) (λ_ _ _ hd=>hd.mute) (λO hO _ _ _ hd=>hd.gu O (hO _ hfb)) hO hI
theorem Kn.d4(h:A.Kn O0 I)(hs:N5 A.P A.tW A.Wg g w):A.D4 O 1 g w:=⟨rfl,hs⟩
theorem Kn.d3(h:A.Kn O0 I)(hO:∀b,O0 b->O b)(hI:I w)(hs:N4 A.P I A.tW A.Wg g w):A.D3 O 1 g w:=by
 refine⟨rfl,hs.1,λhw=> ?_⟩
 obtain⟨g',h1,m,h2⟩:=hs.2 hw
 exact⟨g',h1,OT.weaken (λO' d' g w⟨a,b,c,e⟩=>by subst a;exact h.d4 e) (h.quiet h2 hO (h.setSt hI hw 0))⟩
theorem Kn.d2(h:A.Kn O0 I)(hO:∀b,O0 b->O b)(hI:I w)(hs:N3 A.P I A.tW A.Wg g w):A.D2 O 1 g w:=by
 refine⟨rfl,hs.1,λhw=> ?_⟩
 obtain⟨g',h1,m,h2⟩:=hs.2 hw
 exact⟨g',h1,OT.weaken (λO' d' g w⟨a,b,c,e⟩=>by subst a;exact h.d3 b c e) (h.quiet h2 hO hI)⟩
theorem Kn.d1(h:A.Kn O0 I)(hO:∀b,O0 b->O b)(hI:I w)(hs:N2 A.P I A.tW A.Wg (N3 A.P I A.tW A.Wg) g w):A.D1 O 1 g w:=by
 refine⟨rfl,hs.1,λv wt hwt hv hw=> ?_⟩
 obtain⟨g',h1,h2,h3⟩:=hs.2 v wt hwt hv hw
 refine⟨g',h1,λhz=> ?_,h3⟩
 obtain⟨m,h4⟩:=h2 hz
 exact OT.weaken (λO' d' g w⟨a,b,c,e⟩=>by subst a;exact h.d2 b c e) (h.quiet h4 hO (h.setSt hI hw _))
theorem V9:deafBehind 0 #[Go.ConcR.mk .disable]=1:=rfl
theorem Kn.rel(h:A.Kn O0 I)(hO:∀b,O0 b->O b)(hI:I w)(hs:par.N0 A.P I A.Wg (N2 A.P I A.tW A.Wg (N3 A.P I A.tW A.Wg)) g w){k r:Nat}(hr:r=A.bnd↔A.gd k):A.Rel k r O 0 g w:=by
 obtain⟨h0,g',h1,m,h2⟩:=hs
 refine⟨rfl,h0,hr,g',h1,OT.rH (h.quiet h2 hO hI) λO' d' g w hall=> ?_⟩
 refine OT.mk (hall w (dO.refl Aj _ _)).2.2.2.1 λw₁ he=> ?_
 obtain⟨a,b,c,_,g2,e2,m2,e3⟩:=hall w₁ he
 subst a
 refine⟨g2,w₁,_,e2,⟨rfl,λe he=>by simp[Go.ConcR.mk]at he;subst he;rfl⟩,?_⟩
 rw[V9]
 exact OT.weaken (λO' d' g w⟨a,b,c,e⟩=>by subst a;exact h.d1 b c e) (h.quiet e3 (λx hx=>.inl (b x hx)) c)
theorem NI{k:Nat}:∀{r:Nat},A.Rel k r O d g w->A.Own k r O d g w
 |0,h=>h
 |_+1,h=>.inl h
theorem Kn.lead(h:A.Kn O0 I)(hO:∀b,O0 b->O b)(hI:I w){e:Event}(he:(∃a,e=Go.ConcR.mk (.read a)/\A.Sh a.block)\/(∃a,e=Go.ConcR.mk (.write a)/\A.Sh a.block)\/e=Go.ConcR.mk .enable\/e=Go.ConcR.mk .disable){Z:(Nat->Prop)->Nat->Goroutine->World->Prop}
  (hS:wR A.P true I (Q3 A.P I e S) n g) (hZ:∀O' g w,(∀b,O b->O' b)->I w->S g w->Z O' (deafBehind d #[e]) g w):A.LM Z O d g w:=by
 refine OT.rH (h.first hS hO hI) λO' d' g w hall=> ?_
 refine OT.mk (hall w (dO.refl Aj _ _)).2.2.2.1 λw₁ hw₁=> ?_
 obtain⟨a,b,c,_,g2,e2,m2,e3⟩:=hall w₁ hw₁
 subst a
 refine⟨g2,w₁,_,e2,⟨rfl,rfl,rfl,Nat.le_refl _,λ_ _ _=>rfl,λx hx=> ?_⟩,?_⟩
 ·rw[Array.mem_singleton]at hx
  subst hx
  rcases he with⟨a,rfl,ha⟩|⟨a,rfl,ha⟩|rfl|rfl
  ·exact .inr (.inr ⟨rfl,.inl ⟨a,rfl,ha⟩⟩)
  ·exact .inr (.inr ⟨rfl,.inr (.inl ⟨a,rfl,ha⟩)⟩)
  ·exact .inl trivial
  ·exact .inl trivial
 ·exact OT.weaken (λO'' d' g w⟨a,b',c,e⟩=>by subst a;exact hZ _ _ _ (λx hx=>b' x (.inl (b x hx))) c e) (h.first e3 (λx hx=>.inl (b x (hO x hx))) c)
end
end gW
end Go.Proofs.YtlncengggmgdgaaGreat.par
namespace Go.Proofs.YtlncengggmgdgaaGreat.par
open Go Go.Conc Go.RowKit Go.Conc.Lib Go.ConcR.Gen Go.ConcN.Gen
open Go.ConcR (stA smA WgAt KK rd wr DC0)
namespace gW
variable {A : gW}
structure Job(A:gW)(bl bs k n cap b off:Nat)(ad:Option Addr)(s:ByteArray)(cs:Nat->Int×Int×Int)(gb:Nat->Bool)(fb:Nat):Prop where
 prog:A.P=Tryz.prog
 tW:A.tW=link.tWg
 ne:A.wB≠A.Wg
 nfS:¬A.Sh fb
 rdl:A.Rd bl
 rds:A.Rd bs
 had:0<n->ad=some ⟨b,off,none⟩/\A.Rd b
 n1:n<1000000000000
 lbox:A.Wz.heap[bl]? =some (.cells #[.slice ad n cap] 176)
 sbox:A.Wz.heap[bs]? =some (.cells #[.string s] 9)
 el:∀i,i<n->A.Wz.cell? ⟨b,off+i*3,none⟩=some (.int .i64 (cs i).1)/\A.Wz.cell? ⟨b,off+i*3+1,none⟩=some (.int .i64 (cs i).2.1)/\A.Wz.cell? ⟨b,off+i*3+2,none⟩=some (.int .i64 (cs i).2.2)
 good:A.gd k↔∀i,i<n->i%4=k->gb i=true
 bnd:A.bnd=n
 holds:∀i,i<n->∀(fr:Frame)(cs':List Frame)(O:Nat->Prop)(w:World),O fb->A.Live w->w.heap[fb]? =some (.cells #[.int .i64 k] 3)->fr.mode=.run->A.LW (λO' d g w=>d=0/\(∀b,O b->O' b)/\A.Live w/\w.heap[fb]? =some (.cells #[.int .i64 k] 3)/\g=G (fr.finish (.bool (gb i))) cs') O 0
  (G (Frame.enter Tryz.prog 138 #[.agg #[.int .i64 (cs i).1,.int .i64 (cs i).2.1,.int .i64 (cs i).2.2],.string s] .normal) (fr::cs')) w
def PO(A:gW)(fb k:Nat)(w:World):Prop:=A.Live w/\w.heap[fb]? =some (.cells #[.int .i64 k] 3)
section
variable {bl bs k n cap b off : Nat} {ad : Option Addr} {s : ByteArray} {cs : Nat → Int × Int × Int} {gb : Nat → Bool} {fb : Nat}
theorem Job.kn(J:A.Job bl bs k n cap b off ad s cs gb fb):A.Kn (λb=>b=fb) (A.PO fb k):=by
 refine⟨λw h=>h.1,λO hO w w₁ he h=>⟨he.live h.1,(he.env.own fb (hO fb rfl)).trans h.2⟩,λw w' hh ht ho hu h=>⟨?_,by rw[hh];exact h.2⟩,λw a u ha h hl=>⟨hl,(iY w a u λe=>J.nfS ?_).trans h.2⟩,J.ne⟩
 ·refine wK w w' ⟨ht,ho,hu,by rw[hh];exact Nat.le_refl _,λb _=>by rw[hh]⟩ h.1
 ·rw[e]
  exact .inr ha
theorem Job.is(J:A.Job bl bs k n cap b off ad s cs gb fb):∀w,A.PO fb k w->RQ fb bl bs k ad n cap s cs b off w:=by
 intro w h
 have hr:∀b,A.Rd b->w.heap[b]? =A.Wz.heap[b]? :=λb hb=>h.1.2.heap b hb
 have hc:∀b o,A.Rd b->w.cell? ⟨b,o,none⟩=A.Wz.cell? ⟨b,o,none⟩:=λb o hb=>by
  unfold World.cell?
  dsimp only
  rw[hr b hb]
 refine⟨?_,?_,?_,λi hi=> ?_⟩
 ·simp[World.cell?,h.2]
 ·rw[hc _ _ J.rdl];simp[World.cell?,J.lbox]
 ·rw[hc _ _ J.rds];simp[World.cell?,J.sbox]
 ·have hb:=(J.had (by omega)).2
  obtain⟨h1,h2,h3⟩:=J.el i hi
  exact⟨(hc _ _ hb).trans h1,(hc _ _ hb).trans h2,(hc _ _ hb).trans h3⟩
theorem Job.wg(J:A.Job bl bs k n cap b off ad s cs gb fb):∀{w:World},A.PO fb k w->∃st sm,WgAt link.tWg A.Wg w st sm:=λ{w}h=>by
 have:=h.1.1.1
 rwa[J.tW]at this
theorem Job.rd(J:A.Job bl bs k n cap b off ad s cs gb fb):∀b,b=bl\/b=bs->A.Rd b:=λb h=>h.elim (λe=>e▸J.rdl) λe=>e▸J.rds
theorem Job.loop(J:A.Job bl bs k n cap b off ad s cs gb fb)(hk:k<4):∀(m i r:Nat),n<=i+m->i%4=k->n<=r+i->r<=n->(r=A.bnd↔∀j,j<i->j<n->j%4=k->gb j=true)->i<2000000000000->∀(O:Nat->Prop)(g:Goroutine)(w:World),O fb->A.PO fb k w->AtHead A.Wg fb bl bs A.wB (i:Int) g->A.LW (A.Own k r) O 0 g w:=by
 intro m
 induction m using Nat.strongRecOn with
 |_ m ih=>
 intro i r hm hi hr1 hr2 hb hi2 O g w hO hI hg
 have K:=J.kn
 have hO':∀b,b=fb->O b:=λb e=>e▸hO
 rcases Nat.lt_or_ge i n with hlt|hge
 ·have h1:= @RS A fb bl bs k n cap b off ad s cs (A.PO fb k) J.is J.rd J.had (by have:=J.n1;omega) (λw h=>K.same w _ rfl rfl rfl rfl h) A.Wg A.wB i hlt g hg
  rw[<-J.prog]at h1
  refine OT.bind (K.looks rfl h1 False hO' hI) (dO.refl Aj) λO1 d1 g1 w1⟨e1,a1,c1,s1⟩=> ?_
  subst e1
  obtain⟨x6,x7,x8,x9,x10,x11,x12,kR,x14,x15,x16,x17,x18,x19,x20,rfl⟩:=s1
  refine OT.bind (J.holds i hlt _ _ O1 w1 (a1 _ hO) c1.1 c1.2 ?_) (dO.refl Aj) ?_
  ·rfl
  refineλO2 d2 g2 w2⟨e2,a2,l2,f2,s2⟩=> ?_
  subst e2
  have hO2:∀b,b=fb->O2 b:=λb e=>e▸a2 _ (a1 _ hO)
  have hI2:A.PO fb k w2:=⟨l2,f2⟩
  have hgA:yB A.Wg fb bl bs A.wB i (gb i) g2:=by
   rw[s2,Frame.finish_at,show(ops4[5]?).bind (·.dst)=some 18 by kernel_rfl]
   exact⟨x6,x7,x8,x9,x10,x11,x12,kR,x14,x15,x16,x17,x19,x20,rfl⟩
  cases hgb:gb i with
  |true=>
   rw[hgb]at hgA
   have h3:= @RU A fb bl bs k n cap b off ad s cs (A.PO fb k) J.is A.Wg A.wB i (by have:=J.n1;omega) g2 hgA
   rw[<-J.prog]at h3
   refine OT.bind (K.looks rfl h3 False hO2 hI2) (dO.refl Aj) λO3 d3 g3 w3⟨e3,a3,c3,s3⟩=> ?_
   subst e3
   refine ih (m-4) (by omega) (i+4) r (by omega) (by omega) (by omega) hr2 ?_ (by have:=J.n1;omega) O3 g3 w3 (a3 _ (hO2 _ rfl)) c3 s3
   rw[hb]
   refine⟨λh j hj hjn hjk=> ?_,λh j hj hjn hjk=>h j (by omega) hjn hjk⟩
   rcases Nat.lt_or_ge j i with h5|h5
   ·exact h j h5 hjn hjk
   ·rw[show j=i by omega];exact hgb
  |false=>
   rw[hgb]at hgA
   have h3:= @V6 A fb bl bs k n cap b off ad s cs (A.PO fb k) J.is A.Wg A.wB i (by have:=J.n1;omega) g2 hgA
   rw[<-J.prog]at h3
   obtain⟨r,rfl⟩:∃r',r=r'+1:=⟨r-1,by omega⟩
   refine OT.weaken (λO3 d3 g3 w3⟨e3,a3,c3,s3⟩=> ?_) (K.looks rfl h3 False hO2 hI2)
   subst e3
   refine .inr ⟨rfl,s3.1,λv h0 hv hw=> ?_⟩
   have hc3:w3.cell? ⟨A.wB,0,none⟩=some (.int .i64 v):=by unfold gW.WB at hw;simp[World.cell?,hw]
   have hz3:w3.frozen? ⟨A.wB,0,none⟩=false:=by unfold gW.WB at hw;simp[World.frozen?,hw]
   obtain⟨g4,h4,m4,h5⟩:=s3.2 v h0 hv hc3 hz3
   refine⟨g4,h4,?_⟩
   refine OT.bind (K.looks rfl h5 False (λx hx=>a3 x (hO2 x hx)) (K.setB c3 hw (v+1))) (dO.refl Aj) λO5 d5 g5 w5⟨e5,a5,c5,s5⟩=> ?_
   subst e5
   refine ih (m-4) (by omega) (i+4) r (by omega) (by omega) (by omega) (by omega) ?_ (by have:=J.n1;omega) O5 g5 w5 (a5 _ (a3 _ (hO2 _ rfl))) c5 s5
   refine⟨λh=> ?_,λh=> ?_⟩
   ·have:=J.bnd;omega
   ·have:=h i (by omega) hlt hi
    rw[hgb]at this
    cases this
 ·have h1:= @VY A fb bl bs k n cap b off ad s cs (A.PO fb k) J.is J.wg J.rd A.wB i hge g hg
  rw[<-J.prog,<-J.tW]at h1
  refine OT.weaken (λO' d' g' w'⟨e1,a1,c1,s1⟩=> ?_) (K.looks rfl h1 False hO' hI)
  subst e1
  refine NI (K.rel (λx hx=>a1 x (hO' x hx)) c1 s1 (hb.trans ?_))
  rw[J.good]
  exact⟨λh j hj hjk=>h j (by omega) hj hjk,λh j _ hj hjk=>h j hj hjk⟩
theorem Job.work(J:A.Job bl bs k n cap b off ad s cs gb fb)(hk:k<4){O:Nat->Prop}{w:World}(hO:O fb)(hI:A.PO fb k w):A.LW (A.Own k A.bnd) O 0 (born Tryz.prog (Ce A.Wg fb bl bs A.wB)) w:=by
 have K:=J.kn
 have h1:= @ND A fb bl bs k n cap b off ad s cs (A.PO fb k) J.is J.rd A.Wg A.wB
 rw[show dw Tryz.prog=dw A.P by rw[J.prog]]at h1
 refine OT.bind (K.looks rfl h1 False (λx hx=>hx▸hO) hI) (dO.refl Aj) λO1 d1 g1 w1⟨e1,a1,c1,s1⟩=> ?_
 subst e1
 rw[J.bnd]
 exact J.loop hk (n-k) k n (by omega) (by omega) (by omega) (Nat.le_refl _) (by rw[J.bnd];exact⟨λ_ j hj _ hjk=>by omega,λ_=>rfl⟩) (by omega) O1 g1 w1 (a1 _ hO) c1 s1
end
end gW
end Go.Proofs.YtlncengggmgdgaaGreat.par
namespace Go.Proofs.YtlncengggmgdgaaGreat.par
open Go Go.Conc Go.RowKit Go.Conc.Lib Go.ConcR.Gen Go.ConcN.Gen
open Go.ConcR (stA smA WgAt KK rd wr mk DC0)
theorem dw.weaken{P:Program}{main:Bool}{I:World->Prop}{D:World->World->Array Event->Prop}{S S':Goroutine->World->Prop}{n:Nat}{g:Goroutine}(h:dw P main I D S n g)(hS:∀g w,S g w->S' g w):dw P main I D S' n g:=by
 have key:∀(n:Nat)(g:Goroutine)(w:World),Goes P main (λw w₁=>I w->I w₁) D S n g w->Goes P main (λw w₁=>I w->I w₁) D S' n g w:=by
  intro n
  induction n with
  |zero=>exactλg w h w₁ h₁=>hS _ _ (h w₁ h₁)
  |succ n ih=>
   intro g w h
   rcases h with h|⟨hr,h⟩
   ·exact .inl λw₁ h₁=>hS _ _ (h w₁ h₁)
   ·refine .inr ⟨hr,λw₁ h₁=> ?_⟩
    have:=h w₁ h₁
    revert this
    cases stepG P main g w₁ with
    |go g' w' es=>exactλhx=>⟨hx.1,ih _ _ hx.2⟩
    |_=>exactλhx=>hx
 exactλw hw=>key n g w (h w hw)
theorem Q3.mono{P:Program}{I:World->Prop}{e:Event}{S S':Goroutine->World->Prop}(hS:∀g w,S g w->S' g w)(g:Goroutine)(w:World)(h:Q3 P I e S g w):Q3 P I e S' g w:=by
 obtain⟨h0,g',h1,m,h2⟩:=h
 exact⟨h0,g',h1,m,h2.weaken hS⟩
theorem Q1.mono{P:Program}{I:World->Prop}{tW:TypeId}{Wg:Nat}{S S':Goroutine->World->Prop}(hS:∀g w,S g w->S' g w)(g:Goroutine)(w:World)(h:Q1 P I tW Wg S g w):Q1 P I tW Wg S' g w:=by
 refine⟨h.1,λv hv hw=> ?_⟩
 obtain⟨g',h1,m,h2⟩:=h.2 v hv hw
 exact⟨g',h1,m,h2.weaken λg w hx=>hx.imp (Q3.mono hS g w) (Q3.mono (Q3.mono hS) g w)⟩
def bH:Frame:=base 122
noncomputable def qF:Code:=Tryz.f122.body.getD .skip
noncomputable def kZ:Code:=match qF with| .seq _ (.seq _ (.seq _ c))=>c|_=>.skip
noncomputable def jK:Code:=match kZ with| .seq (.seq _ (.block _ (.loop c))) _=>c|_=>.skip
noncomputable def kE:Code:=match kZ with| .seq _ c=>c|_=>.skip
noncomputable def ops5:Array Oper:=match jK with| .seq _ (.seq _ (.seq (.block _ (.seq (.region _ ops _) _)) _))=>ops|_=> #[]
noncomputable def Cj:Code:=match jK with| .seq _ (.seq _ (.seq (.block _ (.seq _ c)) _))=>c|_=>.skip
noncomputable def ops7:Array Oper:=match Cj with| .seq _ (.region _ ops _)=>ops|_=> #[]
noncomputable def qG:Code:=match jK with| .seq _ (.seq _ (.seq _ c))=>c|_=>.skip
section
variable {A : gW} {I : World → Prop} {vs vl : Value} {bs bl Wg wB : Nat} {cs : List Frame}
def zx(vs vl:Value)(bs bl Wg wB:Nat)(x7 x8 x9 x10 x11 x12 kR x14 x15 x16:Value):Act:=⟨#[vs,vl,.pointer (some ⟨bs,0,none⟩),.pointer (some ⟨bl,0,none⟩),.bool false,.pointer (some ⟨Wg,0,none⟩),.pointer (some ⟨wB,0,none⟩),x7,x8,x9,x10,x11,x12,kR,x14,x15,x16],[]⟩
def wV(vs vl:Value)(bs bl Wg wB:Nat)(cs:List Frame)(g:Goroutine):Prop:=∃x7 x8 x9 x10 x11 x12 kR x14 x15 x16,g=G (bH.at (zx vs vl bs bl Wg wB x7 x8 x9 x10 x11 x12 kR x14 x15 x16) [.code kZ]) cs
def kS(vs vl:Value)(bs bl Wg wB:Nat)(cs:List Frame)(j:Int)(g:Goroutine):Prop:=∃x7 x9 x10 x11 x12 kR x14 x15 x16,g=G (bH.at (zx vs vl bs bl Wg wB x7 (.int .i64 j) x9 x10 x11 x12 kR x14 x15 x16) [.code jK,.inLoop jK,.inBlock 0,.code kE]) cs
def JJ(vs vl:Value)(bs bl Wg wB:Nat)(cs:List Frame)(j:Int)(g:Goroutine):Prop:=∃x7 x9 x11 x12 kR x14 x15 x16,g=G (bH.at (zx vs vl bs bl Wg wB x7 (.int .i64 j) x9 (.int .i64 j) x11 x12 kR x14 x15 x16) [.inRegion ops5 [1,2],.code Cj,.inBlock 1,.code qG,.inLoop jK,.inBlock 0,.code kE]) cs
theorem NJ{g:Goroutine}(hg:wV vs vl bs bl Wg wB cs g):wR Tryz.prog true I (λg _=>kS vs vl bs bl Wg wB cs 0 g) 20 g:=by
 obtain⟨x7,x8,x9,x10,x11,x12,kR,x14,x15,x16,rfl⟩:=hg
 simp only[kZ,qF,Tryz.f122,Option.getD_some,kS,jK,kE,zx]
 repeat(first|(with_reducible apply bn)|(with_reducible apply aI)|((with_reducible apply gi_region);simp only[List.size_toArray,List.length_cons,List.length_nil,Nat.reduceAdd,Nat.zero_add,List.range,List.range.loop])|(with_reducible apply aK)|(with_reducible apply aT)|(with_reducible apply dM)|(with_reducible apply bG)|((with_reducible refine aH (v:= ?_) (o:= ?_) ?_ ?_ ?_ (λ_ _=> ?_) (λ_ _=> ?_) ?_);rotate_left 2;(focus exact rfl);(focus exact rfl);(focus k_ne);(focus (go_simp;(try w_num);first|done|exact rfl));(focus (simp[go_sem, *];done));walk_nrm))
 apply bY
 apply gi_loop
 exact dw.halt λw h=>⟨_,_,_,_,_,_,_,_,_,rfl⟩
theorem RY{j:Nat}(hj:j<4){g:Goroutine}(hg:kS vs vl bs bl Wg wB cs j g):wR Tryz.prog true I (λg _=>JJ vs vl bs bl Wg wB cs j g) 20 g:=by
 obtain⟨x7,x9,x10,x11,x12,kR,x14,x15,x16,rfl⟩:=hg
 have q0:decide ((j:Int)<4)=true:=decide_eq_true (by omega)
 simp only[kZ,qF,Tryz.f122,Option.getD_some,JJ,jK,kE,zx,ops5,Cj,qG]
 repeat(first|(with_reducible apply bn)|(with_reducible apply aI)|((with_reducible apply gi_region);simp only[List.size_toArray,List.length_cons,List.length_nil,Nat.reduceAdd,Nat.zero_add,List.range,List.range.loop])|(with_reducible apply aK)|(with_reducible apply bY)|(with_reducible apply aT)|(with_reducible apply gi_loop)|(with_reducible apply bD)|(with_reducible apply dM)|(with_reducible apply bG)|((with_reducible apply aY (t:=true));(focus first|rfl|(simp[Act.eval];done)|(simp[Act.eval];omega));simp only[if_true,if_false,Bool.false_eq_true,↓reduceIte])|((with_reducible refine aH (v:= ?_) (o:= ?_) ?_ ?_ ?_ (λ_ _=> ?_) (λ_ _=> ?_) ?_);rotate_left 2;(focus exact rfl);(focus exact rfl);(focus k_ne);(focus (go_simp;(try simp only[q0]);(try w_num);first|done|exact rfl));(focus (simp[go_sem, *];done));walk_nrm))
 exact dw.halt λw h=>⟨_,_,_,_,_,_,_,_,rfl⟩
theorem afc:Option.any (λx=>x.norace) (Tryz.prog).funcs[bH.fn]? =false:=by kernel_rfl
theorem NK{a:Act}{k:List Item}{w:World}:∃es,stepG Tryz.prog true (G (bH.at a (.inRegion ops5 [1,2]::k)) cs) w=.go (G (bH.at (a.put (some 7) (.pointer (some ⟨w.heap.size,0,none⟩))) (.inRegion ops5 [2]::k)) cs) (w.alloc (.cells #[.int .i64 0] 3)) es/\es= #[]:=by
 have e:ops5[1]? =some ⟨some 7,.alloc 3,0,"frames.go:62",#[],none⟩:=by kernel_rfl
 have hr:(execOp a.eval ⟨some 7,.alloc 3,0,"frames.go:62",#[],none⟩).run Tryz.prog w=.ok (.value (.pointer (some ⟨w.heap.size,0,none⟩))) (w.alloc (.cells #[.int .i64 0] 3)):=by
  unfold execOp
  simp[go_sem]
 have he:(execOp a.eval ⟨some 7,.alloc 3,0,"frames.go:62",#[],none⟩).events Tryz.prog w #[]= #[]:=by
  unfold execOp
  simp[go_sem]
 refine⟨_,stepG_value e rfl (by k_ne) hr,?_⟩
 unfold listed
 rw[he]
 exact seen_none _ _
theorem NM{a:Act}{k:List Item}{w:World}{fb:Nat}{v u:Int}(h7:a.eval (.tmp 7)=.pointer (some ⟨fb,0,none⟩))(h10:a.eval (.tmp 10)=.int .i64 v)(hc:w.heap[fb]? =some (.cells #[.int .i64 u] 3)):
  stepG Tryz.prog true (G (bH.at a (.inRegion ops5 [2]::k)) cs) w=.go (G (bH.at a (.inRegion ops5 []::k)) cs) (w.setCell ⟨fb,0,none⟩ (.int .i64 v)) #[⟨.cell ⟨fb,0,none⟩,true,false⟩]:=by
 have hc':w.cell? ⟨fb,0,none⟩=some (.int .i64 u):=by simp[World.cell?,hc]
 have hz:w.frozen? ⟨fb,0,none⟩=false:=by simp[World.frozen?,hc]
 have e:ops5[2]? =some ⟨none,.store 3 (.tmp 7) (.tmp 10),0,"frames.go:62",#[⟨1,.data⟩,⟨0,.data⟩,⟨0,.phase⟩,⟨1,.phase⟩],none⟩:=by kernel_rfl
 have hr:(execOp a.eval ⟨none,.store 3 (.tmp 7) (.tmp 10),0,"frames.go:62",#[⟨1,.data⟩,⟨0,.data⟩,⟨0,.phase⟩,⟨1,.phase⟩],none⟩).run Tryz.prog w=.ok .skip (w.setCell ⟨fb,0,none⟩ (.int .i64 v)):=by
  unfold execOp
  simp only[h7,h10]
  simp[go_sem,stored,hc',hz]
 have he:(execOp a.eval ⟨none,.store 3 (.tmp 7) (.tmp 10),0,"frames.go:62",#[⟨1,.data⟩,⟨0,.data⟩,⟨0,.phase⟩,⟨1,.phase⟩],none⟩).events Tryz.prog w #[]= #[⟨.cell ⟨fb,0,none⟩,true,false⟩]:=by
  unfold execOp
  simp only[h7,h10]
  simp[go_sem,storedEv,hc',hz]
 rw[stepG_none e rfl (by k_ne) hr]
 unfold listed
 rw[he,seen_eq afc (by simp)]
 rfl
noncomputable def Cm:Code:=match Cj with| .seq _ c=>c|_=>.skip
noncomputable def ops6:Array Oper:=match Cj with| .seq (.region _ ops _) _=>ops|_=> #[]
noncomputable def ops9:Array Oper:=match kE with| .seq (.region _ ops _) _=>ops|_=> #[]
noncomputable def zy:Code:=match kE with| .seq _ c=>c|_=>.skip
def RZ(vs vl:Value)(bs bl Wg wB:Nat)(cs:List Frame)(j:Int)(fb:Nat)(g:Goroutine):Prop:=∃x9 x11 x12 kR x14 x15 x16,g=G (bH.at (zx vs vl bs bl Wg wB (.pointer (some ⟨fb,0,none⟩)) (.int .i64 j) x9 (.int .i64 j) x11 x12 kR x14 x15 x16) [.inRegion ops5 [],.code Cj,.inBlock 1,.code qG,.inLoop jK,.inBlock 0,.code kE]) cs
def Gt(vs vl:Value)(bs bl Wg wB:Nat)(cs:List Frame)(j:Int)(fb:Nat)(g:Goroutine):Prop:=∃x9 x10 x11 x12 kR x14 x15 x16,g=G (bH.at (zx vs vl bs bl Wg wB (.pointer (some ⟨fb,0,none⟩)) (.int .i64 j) x9 x10 x11 x12 kR x14 x15 x16) [.inRegion ops6 [],.code Cm,.inBlock 1,.code qG,.inLoop jK,.inBlock 0,.code kE]) cs
def JK(vs vl:Value)(bs bl Wg wB:Nat)(cs:List Frame)(j:Int)(fb:Nat)(r:List Nat)(g:Goroutine):Prop:=∃x9 x10 x11 kR x14 x15 x16,g=G (bH.at (zx vs vl bs bl Wg wB (.pointer (some ⟨fb,0,none⟩)) (.int .i64 j) x9 x10 x11 (.func (.func 136) #[] #[.pointer (some ⟨Wg,0,none⟩),.pointer (some ⟨fb,0,none⟩),.pointer (some ⟨bl,0,none⟩),.pointer (some ⟨bs,0,none⟩),.pointer (some ⟨wB,0,none⟩)]) kR x14 x15 x16) [.inRegion ops7 r,.inBlock 1,.code qG,.inLoop jK,.inBlock 0,.code kE]) cs
theorem Wh(hI:∀{w:World},I w->∃st sm,WgAt link.tWg Wg w st sm){j:Int}{fb:Nat}{g:Goroutine}(hg:RZ vs vl bs bl Wg wB cs j fb g):
  wR Tryz.prog true I (Q3 Tryz.prog I (mk .disable) (Q1 Tryz.prog I link.tWg Wg (λg _=>Gt vs vl bs bl Wg wB cs j fb g))) 40 g:=by
 obtain⟨x9,x11,x12,kR,x14,x15,x16,rfl⟩:=hg
 have hA:= @add_one link Tryz.prog I Wg wgLib hI bH (zx vs vl bs bl Wg wB (.pointer (some ⟨fb,0,none⟩)) (.int .i64 j) x9 (.int .i64 j) x11 x12 kR x14 x15 x16) ops6 0 [] [.code Cm,.inBlock 1,.code qG,.inLoop jK,.inBlock 0,.code kE] cs
 have hA':=hA.weaken (λg w h=>Q3.mono (Q1.mono (S':=λg _=>Gt vs vl bs bl Wg wB cs j fb g) λg w hg=>⟨x9,.int .i64 j,.tuple #[],x12,kR,x14,x15,x16,hg⟩) g w h)
 clear hA
 simp only[kZ,qF,Tryz.f122,Option.getD_some,jK,kE,zx,ops5,Cj,qG,ops6,Cm,body_add,addFn]at hA'⊢
 apply aI
 apply bn
 apply gi_region
 simp only[List.size_toArray,List.length_cons,List.length_nil,Nat.reduceAdd,Nat.zero_add,List.range,List.range.loop]
 (refine jw rfl rfl (by k_ne) rfl wgLib.f_add (nm_add link) rfl ?_;walk_nrmf addFn)
 exact hA'.up (by omega)
theorem Zt{j:Int}{fb:Nat}{g:Goroutine}(hg:Gt vs vl bs bl Wg wB cs j fb g):wR Tryz.prog true I (λg _=>JK vs vl bs bl Wg wB cs j fb [1] g) 10 g:=by
 obtain⟨x9,x10,x11,x12,kR,x14,x15,x16,rfl⟩:=hg
 simp only[kZ,qF,Tryz.f122,Option.getD_some,jK,kE,zx,ops5,Cj,qG,ops6,ops7,Cm,JK]
 repeat(first|(with_reducible apply bn)|(with_reducible apply aI)|((with_reducible apply gi_region);simp only[List.size_toArray,List.length_cons,List.length_nil,Nat.reduceAdd,Nat.zero_add,List.range,List.range.loop])|(with_reducible apply aK)|(with_reducible apply aT)|(with_reducible apply dM)|(with_reducible apply bG)|((with_reducible refine aH (v:= ?_) (o:= ?_) ?_ ?_ ?_ (λ_ _=> ?_) (λ_ _=> ?_) ?_);rotate_left 2;(focus exact rfl);(focus exact rfl);(focus k_ne);(focus (go_simp;(try w_num);first|done|exact rfl));(focus (simp[go_sem, *];done));walk_nrm)|((with_reducible refine aH (v:= ?_) (o:= ?_) ?_ ?_ ?_ (λ_ _=> ?_) (λ_ _=> ?_) ?_);rotate_left 2;(focus exact rfl);(focus exact rfl);(focus k_ne);(focus (go_simp;exact rfl));(focus (simp[go_sem,Instr.makeFunc];done));walk_nrm))
 exact dw.halt λw h=>⟨_,_,_,_,_,_,_,rfl⟩
theorem NP{j:Int}{fb:Nat}{g:Goroutine}(hg:JK vs vl bs bl Wg wB cs j fb [1] g)(w:World):g.status=.running/\∃g',stepG Tryz.prog true g w=.spawn g' (born Tryz.prog (Ce Wg fb bl bs wB)) w #[]/\JK vs vl bs bl Wg wB cs j fb [] g':=by
 obtain⟨x9,x10,x11,kR,x14,x15,x16,rfl⟩:=hg
 have e:ops7[1]? =some ⟨none,.go {callee:=.value (.tmp 12),args:= #[],argTypes:= #[]},0,"frames.go:64",#[⟨0,.data⟩],none⟩:=by kernel_rfl
 refine⟨rfl,_,?_,⟨x9,x10,x11,kR,x14,x15,x16,rfl⟩⟩
 have h:= @stepG_spawn Tryz.prog true bH (zx vs vl bs bl Wg wB (.pointer (some ⟨fb,0,none⟩)) (.int .i64 j) x9 x10 x11 (.func (.func 136) #[] #[.pointer (some ⟨Wg,0,none⟩),.pointer (some ⟨fb,0,none⟩),.pointer (some ⟨bl,0,none⟩),.pointer (some ⟨bs,0,none⟩),.pointer (some ⟨wB,0,none⟩)]) kR x14 x15 x16) [.inBlock 1,.code qG,.inLoop jK,.inBlock 0,.code kE] cs w ops7 1 [] _ (Ce Wg fb bl bs wB) w (.func 136) _ e rfl (by k_ne) (by unfold execOp;simp[go_sem,zx,resolve,Deferred.ofValue,Act.eval,Ce]) rfl
 rw[h]
 have he:listed Tryz.prog bH.fn (zx vs vl bs bl Wg wB (.pointer (some ⟨fb,0,none⟩)) (.int .i64 j) x9 x10 x11 (.func (.func 136) #[] #[.pointer (some ⟨Wg,0,none⟩),.pointer (some ⟨fb,0,none⟩),.pointer (some ⟨bl,0,none⟩),.pointer (some ⟨bs,0,none⟩),.pointer (some ⟨wB,0,none⟩)]) kR x14 x15 x16) ⟨none,.go {callee:=.value (.tmp 12),args:= #[],argTypes:= #[]},0,"frames.go:64",#[⟨0,.data⟩],none⟩ w= #[]:=by
  unfold listed execOp
  simp[go_sem,zx,resolve,Deferred.ofValue,Act.eval,seen_none]
 rw[he]
 rfl
theorem Si{j:Nat}(hj:j<4){fb:Nat}{g:Goroutine}(hg:JK vs vl bs bl Wg wB cs j fb [] g):wR Tryz.prog true I (λg _=>kS vs vl bs bl Wg wB cs ((j+1:Nat):Int) g) 20 g:=by
 obtain⟨x9,x10,x11,kR,x14,x15,x16,rfl⟩:=hg
 have q0:IntKind.i64.wrap ((j:Int)+1)=((j+1:Nat):Int):=by rw[IntKind.wrap_i64];omega
 simp only[kZ,qF,Tryz.f122,Option.getD_some,jK,kE,zx,ops5,Cj,qG,ops6,ops7,Cm,kS]
 repeat(first|(with_reducible apply bn)|(with_reducible apply aI)|((with_reducible apply gi_region);simp only[List.size_toArray,List.length_cons,List.length_nil,Nat.reduceAdd,Nat.zero_add,List.range,List.range.loop])|(with_reducible apply aK)|(with_reducible apply aT)|(with_reducible apply dM)|(with_reducible apply bG)|((with_reducible refine aH (v:= ?_) (o:= ?_) ?_ ?_ ?_ (λ_ _=> ?_) (λ_ _=> ?_) ?_);rotate_left 2;(focus exact rfl);(focus exact rfl);(focus k_ne);(focus (go_simp;(try simp only[q0]);(try w_num);first|done|exact rfl));(focus (simp[go_sem, *];done));walk_nrm))
 apply bD
 exact dw.halt λw h=>⟨_,_,_,_,_,_,_,_,_,rfl⟩
theorem Sj{g:Goroutine}(hg:kS vs vl bs bl Wg wB cs 4 g):wR Tryz.prog true I (Q3 Tryz.prog I (mk .disable) (λg _=>∃x7 x8 x9 x10 x11 x12 kR x14 x15 x16,ES link Wg (bH.at (zx vs vl bs bl Wg wB x7 x8 x9 x10 x11 x12 kR x14 x15 x16) [.inRegion ops9 [0],.code zy]) cs g)) 40 g:=by
 obtain⟨x7,x9,x10,x11,x12,kR,x14,x15,x16,rfl⟩:=hg
 have hA:= @Ny link Tryz.prog I Wg wgLib bH (zx vs vl bs bl Wg wB x7 (.int .i64 4) (.bool false) x10 x11 x12 kR x14 x15 x16) ops9 0 [] [.code zy] cs
 have hA':=hA.weaken (λg w h=>Q3.mono (S':=λg _=>∃x7 x8 x9 x10 x11 x12 kR x14 x15 x16,ES link Wg (bH.at (zx vs vl bs bl Wg wB x7 x8 x9 x10 x11 x12 kR x14 x15 x16) [.inRegion ops9 [0],.code zy]) cs g) (λg w hg=>⟨_,_,_,_,_,_,_,_,_,_,hg⟩) g w h)
 clear hA
 simp only[kZ,qF,Tryz.f122,Option.getD_some,jK,kE,zx,ops9,zy,body_wait,waitFn]at hA'⊢
 repeat(first|(with_reducible apply bn)|(with_reducible apply aI)|((with_reducible apply gi_region);simp only[List.size_toArray,List.length_cons,List.length_nil,Nat.reduceAdd,Nat.zero_add,List.range,List.range.loop])|(with_reducible apply aK)|(with_reducible apply bY)|(with_reducible apply aT)|(with_reducible apply gi_loop)|(with_reducible apply bD)|(with_reducible apply dM)|(with_reducible apply bG)|((with_reducible apply aY (t:=false));(focus first|rfl|(simp[Act.eval];done)|(simp[Act.eval];omega));simp only[if_true,if_false,Bool.false_eq_true,↓reduceIte])|((with_reducible refine aH (v:= ?_) (o:= ?_) ?_ ?_ ?_ (λ_ _=> ?_) (λ_ _=> ?_) ?_);rotate_left 2;(focus exact rfl);(focus exact rfl);(focus k_ne);(focus (go_simp;(try w_num);first|done|exact rfl));(focus (simp[go_sem, *];done));walk_nrm)|((with_reducible apply dH);(focus rfl)))
 (refine jw rfl rfl (by k_ne) rfl wgLib.f_wait (nm_wait link) rfl ?_;walk_nrmf waitFn)
 exact hA'.up (by omega)
end
end Go.Proofs.YtlncengggmgdgaaGreat.par
namespace Go.Proofs.YtlncengggmgdgaaGreat.par
open Go Go.Conc Go.RowKit Go.Conc.Lib Go.ConcR.Gen Go.ConcN.Gen
open Go.ConcR (stA smA WgAt KK rd wr DC0)
namespace gW
variable {A : gW}
theorem kn0(ne:A.wB≠A.Wg):A.Kn (λ_=>False) A.Live:=
 ⟨λ_ h=>h,λO _ w w₁ he h=>he.live h,λw w' hh ht ho hu h=>wK w w' ⟨ht,ho,hu,by rw[hh];exact Nat.le_refl _,λb _=>by rw[hh]⟩ h,λ_ _ _ _ _ h=>h,ne⟩
theorem yC{O:Nat->Prop}:∀b,(λ_=>False) b->O b:=λ_ h=>h.elim
section
variable {O0 : Nat → Prop} {I : World → Prop} {O : Nat → Prop} {g : Goroutine} {w : World} {S : Goroutine → World → Prop}
variable {Anch aU : (Nat → Prop) → Nat → Goroutine → World → Prop}
theorem Kn.ac(h:A.Kn O0 I)(hO:∀b,O0 b->O b)(hI:I w)(hF:∀O g w,I w->S g w->aU O 0 g w)(hs:Q3 A.P I (Go.ConcR.mk (.acquire (stA A.Wg))) S g w):A.Ac aU O 0 g w:=by
 obtain⟨h0,g',h1,m,h2⟩:=hs
 exact⟨rfl,h0,g',h1,OT.weaken (λO' d' g w⟨a,b,c,e⟩=>by subst a;exact hF _ _ _ c e) (h.first h2 hO hI)⟩
theorem Kn.acs(h:A.Kn O0 I)(hO:∀b,O0 b->O b)(hI:I w)(hF:∀O g w,I w->S g w->aU O 0 g w){m:Nat}(hs:wR A.P true I (VE A.P I A.Wg S) m g):A.LM (A.Ac aU) O 1 g w:=
 h.lead hO hI (.inr (.inr (.inl rfl))) hs λO' g w hO1 hI1 h1=>h.ac (λx hx=>hO1 x (hO x hx)) hI1 hF h1
theorem Kn.w4(h:A.Kn O0 I)(hO:∀b,O0 b->O b)(hI:I w)(hF:∀O g w,I w->S g w->aU O 0 g w)(hs:V4 A.P I A.tW A.Wg (VE A.P I A.Wg S) g w):A.W4 aU O 1 g w:=by
 refine⟨rfl,hs.1,λhw=> ?_⟩
 obtain⟨g',h1,m,h2⟩:=hs.2 hw
 exact⟨g',h1,h.acs hO hI hF h2⟩
theorem Kn.w3(h:A.Kn O0 I)(hO:∀b,O0 b->O b)(hI:I w)(hF:∀O g w,I w->S g w->aU O 0 g w)(hs:V3 A.P I A.tW A.Wg (V4 A.P I A.tW A.Wg (VE A.P I A.Wg S)) g w):A.W3 aU O 1 g w:=by
 refine⟨rfl,hs.1,hs.2.1,hs.2.2.1,λhw=> ?_⟩
 obtain⟨g',h1,m,h2⟩:=hs.2.2.2 hw
 exact⟨g',h1,OT.weaken (λO' d' g w⟨a,b,c,e⟩=>by subst a;exact h.w4 (λx hx=>b x (hO x hx)) c hF e) (h.first h2 hO (h.setSm hI hw 0))⟩
theorem Kn.w2(h:A.Kn O0 I)(hO:∀b,O0 b->O b)(hI:I w)(hF:∀O g w,I w->S g w->aU O 0 g w){Z:Goroutine->World->Prop}(hZ:∀O g w,I w->Z g w->Anch O 1 g w){vs:Nat}
  (hs:V2 A.P I A.tW A.Wg vs (Q3 A.P I (Go.ConcR.mk (.write (smA A.Wg))) (V3 A.P I A.tW A.Wg (V4 A.P I A.tW A.Wg (VE A.P I A.Wg S)))) Z g w):A.W2 Anch aU vs O 1 g w:=by
 refine⟨rfl,hs.1,λv hv hw=>⟨λe=> ?_,λe=> ?_⟩⟩
 ·obtain⟨g',h1,m,h2⟩:=(hs.2 v hv hw).1 e
  exact⟨g',h1,h.lead hO (h.setSt hI hw _) (.inr (.inl ⟨_,rfl,.inr (.inl rfl)⟩)) h2 λO' g w hO1 hI1 h3=>h.w3 (λx hx=>hO1 x (hO x hx)) hI1 hF h3⟩
 ·obtain⟨g',h1,m,h2⟩:=(hs.2 v hv hw).2 e
  exact⟨g',h1,OT.weaken (λO' d' g w⟨a,b,c,e⟩=>by subst a;exact hZ _ _ _ c e) (h.first h2 hO hI)⟩
theorem Kn.w1(h:A.Kn O0 I)(hO:∀b,O0 b->O b)(hI:I w)(hF:∀O g w,I w->S g w->aU O 0 g w){Z:Goroutine->World->Prop}(hZ:∀O g w,I w->Z g w->Anch O 1 g w)
  (hs:V1 A.P I A.tW A.Wg (VE A.P I A.Wg S) (λvs=>V2 A.P I A.tW A.Wg vs (Q3 A.P I (Go.ConcR.mk (.write (smA A.Wg))) (V3 A.P I A.tW A.Wg (V4 A.P I A.tW A.Wg (VE A.P I A.Wg S)))) Z) g w):A.W1 Anch aU O 1 g w:=by
 refine⟨rfl,hs.1,λv hv hw=> ?_⟩
 obtain⟨g',h1,h2,h3⟩:=hs.2 v hv hw
 refine⟨g',h1,λe=> ?_,λe=> ?_⟩
 ·obtain⟨m,h4⟩:=h2 e
  exact h.acs hO hI hF h4
 ·obtain⟨m,h4⟩:=h3 e
  exact OT.weaken (λO' d' g w⟨a,b,c,e⟩=>by subst a;exact h.w2 (λx hx=>b x (hO x hx)) c hF hZ e) (h.first h4 hO hI)
theorem Kn.a1(h:A.Kn O0 I)(hO:∀b,O0 b->O b)(hI:I w){Nx:(Nat->Prop)->Nat->Goroutine->World->Prop}(hN:∀O' g w,(∀b,O b->O' b)->I w->S g w->A.LM Nx O' 0 g w)(hs:Q1 A.P I A.tW A.Wg S g w):A.A1 Nx O 1 g w:=by
 refine⟨rfl,hs.1,λv hv hw=> ?_⟩
 obtain⟨g',h1,m,h2⟩:=hs.2 v hv hw
 refine⟨g',h1,?_⟩
 have fin:∀(O1:Nat->Prop)(g1:Goroutine)(w1:World),(∀b,O b->O1 b)->I w1->Q3 A.P I (Go.ConcR.mk .enable) S g1 w1->∃g2 w2 es,stepG A.P true g1 w1=.go g2 w2 es/\Gn A.Rd A.Sh ((0:Nat)=0) O1 w1 w2 es/\A.LM Nx (grow O1 w1 w2) (deafBehind 1 es) g2 w2:=by
  intro O1 g1 w1 ha hI1 hq
  obtain⟨_,g2,e2,m2,e3⟩:=hq
  refine⟨g2,w1,_,e2,⟨rfl,rfl,rfl,Nat.le_refl _,λ_ _ _=>rfl,λx hx=> ?_⟩,?_⟩
  ·rw[Array.mem_singleton]at hx
   subst hx
   exact .inl trivial
  ·show A.LM Nx (grow O1 w1 w1) 0 g2 w1
   exact OT.bind (h.first e3 (λx hx=>.inl (ha x (hO x hx))) hI1) (dO.refl Aj) λO' d' g w⟨a,b,c,e⟩=>by subst a;exact hN _ _ _ (λx hx=>b x (.inl (ha x hx))) c e
 refine OT.rH (h.first h2 hO (h.setSt hI hw _)) λO1 d1 g1 w1 hall=> ?_
 have h0:=hall w1 (dO.refl Aj _ _)
 obtain rfl:=h0.1
 refine OT.mk (h0.2.2.2.elim (λx=>x.1) λx=>x.1) λw₁ he=> ?_
 obtain⟨_,b,c,hq⟩:=hall w₁ he
 rcases hq with hq|⟨_,g2,e2,m2,e3⟩
 ·exact fin O1 g1 w₁ b c hq
 ·refine⟨g2,w₁,_,e2,⟨rfl,rfl,rfl,Nat.le_refl _,λ_ _ _=>rfl,λx hx=> ?_⟩,?_⟩
  ·rw[Array.mem_singleton]at hx
   subst hx
   exact .inr (.inr ⟨rfl,.inl ⟨_,rfl,.inr (.inl rfl)⟩⟩)
  ·show A.LM Nx (grow O1 w₁ w₁) 1 g2 w₁
   refine OT.rH (h.first e3 (λx hx=>.inl (b x (hO x hx))) c) λO3 d3 g3 w3 zA=> ?_
   have h3:=zA w3 (dO.refl Aj _ _)
   obtain rfl:=h3.1
   refine OT.mk h3.2.2.2.1 λw₄ he4=> ?_
   obtain⟨_,b4,c4,hq4⟩:=zA w₄ he4
   exact fin O3 g3 w₄ (λx hx=>b4 x (.inl (b x hx))) c4 hq4
end
end gW
end Go.Proofs.YtlncengggmgdgaaGreat.par
namespace Go.Proofs.YtlncengggmgdgaaGreat.par
open Go Go.Conc Go.RowKit Go.Conc.Lib Go.ConcR.Gen Go.ConcN.Gen
open Go.ConcR (stA smA WgAt KK rd wr DC0)
namespace gW
variable {A : gW}
structure Gv(A:gW)(bl bs n cap b off:Nat)(ad:Option Addr)(s:ByteArray)(cs:Nat->Int×Int×Int)(gb:Nat->Bool):Prop where
 prog:A.P=Tryz.prog
 tW:A.tW=link.tWg
 ne:A.wB≠A.Wg
 job:∀j,j<4->∀fb,A.B1<=fb->A.Job bl bs j n cap b off ad s cs gb fb
 b1:A.B1<=A.Wz.heap.size
section
variable {bl bs n cap b off : Nat} {ad : Option Addr} {s : ByteArray} {cs : Nat → Int × Int × Int} {gb : Nat → Bool} {vs vl : Value} {cl : List Frame}
def afd(A:gW)(vs vl:Value)(bs bl:Nat)(cl:List Frame)(g:Goroutine):Prop:=∃x7 x8 x9 x10 x11 x12 kR x14 x15 x16,ES link A.Wg (bH.at (zx vs vl bs bl A.Wg A.wB x7 x8 x9 x10 x11 x12 kR x14 x15 x16) [.inRegion ops9 [0],.code zy]) cl g
def CB(A:gW)(vs vl:Value)(bs bl:Nat)(cl:List Frame)(O:Nat->Prop)(d:Nat)(g:Goroutine)(w:World):Prop:=d=1/\A.Live w/\afd A vs vl bs bl cl g
def Zu(A:gW)(vs vl:Value)(bs bl:Nat)(cl:List Frame)(g:Goroutine):Prop:=∃x7 x8 x9 x10 x11 x12 kR x14 x15 x16,g=G (bH.at (zx vs vl bs bl A.Wg A.wB x7 x8 x9 x10 x11 x12 kR x14 x15 x16) [.inRegion ops9 [],.code zy]) cl
def Eb(A:gW)(vs vl:Value)(bs bl:Nat)(cl:List Frame)(O:Nat->Prop)(d:Nat)(g:Goroutine)(w:World):Prop:=d=0/\Zu A vs vl bs bl cl g
theorem Eb.run{O:Nat->Prop}{d:Nat}{g:Goroutine}{w:World}(h:Eb A vs vl bs bl cl O d g w):d=0/\g.status=.running:=by
 obtain⟨h1,_,_,_,_,_,_,_,_,_,_,rfl⟩:=h
 exact⟨h1,rfl⟩
theorem Gv.anch(J:A.Gv bl bs n cap b off ad s cs gb)(O:Nat->Prop)(d:Nat)(g:Goroutine)(w:World)(h:CB A vs vl bs bl cl O d g w):A.LM (A.W1 (CB A vs vl bs bl cl) (Eb A vs vl bs bl cl)) O d g w:=by
 obtain⟨rfl,hl,x7,x8,x9,x10,x11,x12,kR,x14,x15,x16,hh⟩:=h
 have K:=kn0 (A:=A) J.ne
 have h1:= @Nw link Tryz.prog A.Live A.Wg wgLib (λ{w}h=>by have:=h.1.1;rwa[J.tW]at this) bH (zx vs vl bs bl A.Wg A.wB x7 x8 x9 x10 x11 x12 kR x14 x15 x16) ops9 0 [] [.code zy] cl (λg _=>Zu A vs vl bs bl cl g)
  (λg w e=>⟨x7,x8,x9,x10,x11,x12,kR,.tuple #[],x15,x16,by rw[show(ops9[0]?).bind (·.dst)=some 14 by kernel_rfl]at e;exact e⟩) g hh
 rw[<-J.prog,<-J.tW]at h1
 refine OT.weaken (λO' d' g' w'⟨a,_,c,e⟩=> ?_) (K.first h1 yC hl)
 subst a
 exact K.w1 yC c (λO g w _ he=>⟨rfl,he⟩) (λO g w hw hz=>⟨rfl,hw,_,_,_,_,_,_,_,_,_,_,hz⟩) e
theorem Gv.wait(J:A.Gv bl bs n cap b off ad s cs gb){O:Nat->Prop}{g:Goroutine}{w:World}(hl:A.Live w)(hg:kS vs vl bs bl A.Wg A.wB cl 4 g):A.LM (A.W1 (CB A vs vl bs bl cl) (Eb A vs vl bs bl cl)) O 0 g w:=by
 have K:=kn0 (A:=A) J.ne
 have h1:= @Sj A.Live vs vl bs bl A.Wg A.wB cl g hg
 rw[<-J.prog]at h1
 exact OT.bind (K.lead yC hl (.inr (.inr (.inr rfl))) h1 (Z:=CB A vs vl bs bl cl) λO' g w _ hw hs=>⟨rfl,hw,hs⟩) (dO.refl Aj) λO d g w h=>J.anch O d g w h
theorem Gv.add(J:A.Gv bl bs n cap b off ad s cs gb){j:Nat}(hj:j<4){Next:(Nat->Prop)->Nat->Goroutine->World->Prop}(hN:∀O g w,A.Live w->kS vs vl bs bl A.Wg A.wB cl ((j+1:Nat):Int) g->A.LM Next O 0 g w)
  {O:Nat->Prop} {g:Goroutine} {w:World} (hl:A.Live w) (hg:kS vs vl bs bl A.Wg A.wB cl (j:Int) g):A.LM (A.A1 (A.GoS j Next)) O 0 g w:=by
 have K:=kn0 (A:=A) J.ne
 have h1:= @RY A.Live vs vl bs bl A.Wg A.wB cl j hj g hg
 rw[<-J.prog]at h1
 refine OT.rH (K.first h1 yC hl) λO1 d1 g1 w1 hall=> ?_
 have h0:=hall w1 (dO.refl Aj _ _)
 obtain rfl:=h0.1
 obtain⟨x7,x9,x11,x12,kR,x14,x15,x16,rfl⟩:=h0.2.2.2
 refine OT.mk rfl λw₁ he=> ?_
 obtain⟨es,e1,rfl⟩:=NK (cs:=cl) (a:=zx vs vl bs bl A.Wg A.wB x7 (.int .i64 j) x9 (.int .i64 j) x11 x12 kR x14 x15 x16) (k:=[.code Cj,.inBlock 1,.code qG,.inLoop jK,.inBlock 0,.code kE]) (w:=w₁)
 rw[<-J.prog]at e1
 have hl1:A.Live w₁:=(hall w₁ he).2.2.1
 have hB:A.B1<=w₁.heap.size:=Nat.le_trans J.b1 hl1.2.size
 have hnew:∀b,b<w₁.heap.size->(w₁.alloc (.cells #[.int .i64 0] 3)).heap[b]? =w₁.heap[b]? :=λb hb=>by
  show(w₁.heap.push _)[b]? =_
  rw[Array.getElem?_push,if_neg (by omega)]
 have hsz:(w₁.alloc (.cells #[.int .i64 0] 3)).heap.size=w₁.heap.size+1:=by
  show(w₁.heap.push _).size=_
  simp
 refine⟨_,_,_,e1,⟨rfl,rfl,rfl,by omega,λb hb _=>hnew b hb,λe he=>absurd he (by simp)⟩,?_⟩
 generalize hfb:w₁.heap.size=fb at*
 have hat:(w₁.alloc (.cells #[.int .i64 0] 3)).heap[fb]? =some (.cells #[.int .i64 0] 3):=by
  show(w₁.heap.push _)[fb]? =_
  rw[Array.getElem?_push,if_pos hfb.symm]
 have Jf:=J.job j hj fb hB
 have hl2:A.Live (w₁.alloc (.cells #[.int .i64 0] 3)):=by
  obtain⟨⟨⟨st,sm,q1⟩,v,q2⟩,q3⟩:=hl1
  have lW:A.Wg<fb:=by rw[<-hfb];exact(Array.getElem?_eq_some_iff.1 (show w₁.heap[A.Wg]? =_ from q1)).1
  have lB:A.wB<fb:=by rw[<-hfb];exact(Array.getElem?_eq_some_iff.1 (show w₁.heap[A.wB]? =_ from q2)).1
  exact⟨⟨⟨st,sm,(hnew _ lW).trans q1⟩,v,(hnew _ lB).trans q2⟩,⟨q3.tape,q3.os,q3.output,by have:=q3.size;omega,λb hb=>(hnew b (by have:=hb.1;omega)).trans (q3.heap b hb)⟩⟩
 have hO2:grow O1 w₁ (w₁.alloc (.cells #[.int .i64 0] 3)) fb:=.inr ⟨by omega,by omega⟩
 show A.LM _ (grow O1 w₁ (w₁.alloc (.cells #[.int .i64 0] 3))) 0 _ _
 generalize(w₁.alloc (.cells #[.int .i64 0] 3))=w2 at*
 generalize grow O1 w₁ w2=O2 at*
 refine OT.mk rfl λw₂ he2=> ?_
 have acR:w₂.heap[fb]? =some (.cells #[.int .i64 0] 3):=(he2.env.own fb hO2).trans hat
 have hl3:A.Live w₂:=he2.live hl2
 have e2:=NM (cs:=cl) (a:=zx vs vl bs bl A.Wg A.wB (.pointer (some ⟨fb,0,none⟩)) (.int .i64 j) x9 (.int .i64 j) x11 x12 kR x14 x15 x16) (k:=[.code Cj,.inBlock 1,.code qG,.inLoop jK,.inBlock 0,.code kE]) (v:=j) rfl rfl acR
 rw[<-J.prog]at e2
 have hne:∀b,b≠fb->(w₂.setCell ⟨fb,0,none⟩ (.int .i64 j)).heap[b]? =w₂.heap[b]? :=λb hb=>iY w₂ ⟨fb,0,none⟩ _ hb
 have hs3:(w₂.setCell ⟨fb,0,none⟩ (.int .i64 j)).heap.size=w₂.heap.size:=by simp[World.setCell]
 have afe:(w₂.setCell ⟨fb,0,none⟩ (.int .i64 j)).heap[fb]? =some (.cells #[.int .i64 j] 3):=by
  rw[setCell_eq_setRow w₂ fb 0 _ 3 (0,0) _ acR,setRow_heap w₂ fb _ _ 3 _ acR]
  simp
 have hl4:A.Live (w₂.setCell ⟨fb,0,none⟩ (.int .i64 j)):=by
  refine wK w₂ _ ⟨rfl,rfl,rfl,by omega,λb hb=>hne b λe=> ?_⟩ hl3
  subst e
  rcases hb with hb|hb
  ·exact Jf.nfS hb
  ·have:=hb.1;omega
 refine⟨_,_,_,e2,⟨rfl,rfl,rfl,by omega,λb _ hb=>hne b λe=>hb (e▸hO2),λe he=> ?_⟩,?_⟩
 ·rw[Array.mem_singleton]at he
  subst he
  exact .inl (.inl hO2)
 show A.LM _ (grow O2 w₂ (w₂.setCell ⟨fb,0,none⟩ (.int .i64 j))) 0 _ _
 have hO3:grow O2 w₂ (w₂.setCell ⟨fb,0,none⟩ (.int .i64 j)) fb:=.inl hO2
 generalize w₂.setCell ⟨fb,0,none⟩ (.int .i64 j)=w3 at*
 generalize grow O2 w₂ w3=O3 at*
 have Kf:=Jf.kn
 have hI3:A.PO fb j w3:=⟨hl4,afe⟩
 have aff:∀x,x=fb->O3 x:=λx e=>e▸hO3
 have h5:= @Wh (A.PO fb j) vs vl bs bl A.Wg A.wB cl Jf.wg (j:Int) fb _ ⟨x9,x11,x12,kR,x14,x15,x16,rfl⟩
 rw[<-J.prog,<-J.tW]at h5
 refine Kf.lead aff hI3 (.inr (.inr (.inr rfl))) h5 λO4 g4 w4 uS hI4 h6=> ?_
 show A.A1 _ O4 1 g4 w4
 refine Kf.a1 (λx hx=>uS x (aff x hx)) hI4 (λO5 g5 w5 ho5 hI5 h7=> ?_) h6
 have hO5:O5 fb:=ho5 _ (uS _ hO3)
 have h8:= @Zt (A.PO fb j) vs vl bs bl A.Wg A.wB cl j fb g5 h7
 rw[<-J.prog]at h8
 refine OT.weaken (λO6 d6 g6 w6⟨a6,b6,c6,s6⟩=> ?_) (Kf.first h8 (λx hx=>by rw[hx];exact hO5) hI5)
 subst a6
 obtain⟨r6,g7,e7,s7⟩:=NP s6 w6
 rw[<-J.prog]at e7
 refine⟨rfl,r6,g7,_,λx=>O6 x/\x≠fb,λx=>x=fb,e7,λx hx=>hx.1,λx hx=>by rw[hx];exact b6 _ hO5,λx hx e=>hx.2 e,?_,?_⟩
 ·rw[J.prog]
  exact Jf.work hj rfl c6
 ·have h9:= @Si A.Live vs vl bs bl A.Wg A.wB cl j hj fb g7 s7
  rw[<-J.prog]at h9
  exact OT.bind (K.first h9 yC c6.1) (dO.refl Aj) λO' d' g w⟨a,_,c,e⟩=>by subst a;exact hN _ _ _ c e
theorem Gv.start(J:A.Gv bl bs n cap b off ad s cs gb){O:Nat->Prop}{g:Goroutine}{w:World}(hl:A.Live w)(hg:wV vs vl bs bl A.Wg A.wB cl g):
  A.LM (A.A1 (A.YI (CB A vs vl bs bl cl) (Eb A vs vl bs bl cl) 3)) O 0 g w:=by
 have K:=kn0 (A:=A) J.ne
 have h1:= @NJ A.Live vs vl bs bl A.Wg A.wB cl g hg
 rw[<-J.prog]at h1
 refine OT.bind (K.first h1 yC hl) (dO.refl Aj) λO' d' g w⟨a,_,c,e⟩=> ?_
 subst a
 have key:∀r,r<=3->∀O g w,A.Live w->kS vs vl bs bl A.Wg A.wB cl ((3-r:Nat):Int) g->A.LM (A.A1 (A.YI (CB A vs vl bs bl cl) (Eb A vs vl bs bl cl) r)) O 0 g w:=by
  intro r
  induction r with
  |zero=>exactλ_ O g w hl hg=>J.add (j:=3) (by omega) (λO g w hl hg=>J.wait hl hg) hl hg
  |succ r ih=>exactλhr O g w hl hg=>J.add (j:=2-r) (by omega) (λO g w hl hg=>ih (by omega) O g w hl (by rw[show 3-r=2-r+1 by omega];exact hg)) hl (by rw[show 2-r=3-(r+1) by omega];exact hg)
 exact key 3 (by omega) _ _ _ c e
end
end gW
end Go.Proofs.YtlncengggmgdgaaGreat.par
