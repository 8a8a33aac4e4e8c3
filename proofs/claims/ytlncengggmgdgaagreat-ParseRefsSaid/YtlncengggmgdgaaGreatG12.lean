/- A wait group's phase: the workers' protocol steps. No conditions. -/
import Derived.Test.YtlncengggmgdgaaGreatG11
import Derived.Below
set_option linter.unusedVariables false
set_option linter.unusedSimpArgs false
namespace Go.Proofs.YtlncengggmgdgaaGreat.par
open Go Go.Conc
open Go.ConcN (CT Apart Deaf_absent PermW RelBy sumTo sumTo_congr sumTo_upd le_sumTo sumTo_le)
open Go.ConcR (stA smA WgAt KK rd wr)
namespace gW
variable {A : gW} {Anch aU : (Nat → Prop) → Nat → Goroutine → World → Prop}
theorem Turns.id{w:World}(hl:A.Live w):A.Turns w w:=⟨rfl,rfl,rfl,rfl,λ_ _=>rfl,hl⟩
theorem iY(w:World)(a:Addr)(u:Value){b:Nat}(h:b≠a.block):(w.setCell a u).heap[b]? =w.heap[b]? :=Go.RowKit.Below.heap_setCell w a u b h
theorem gy{w:World}(h:mW A.Rd A.Wz w){a:Addr}(ha:a.block=A.Wg\/a.block=A.wB)(u:Value):mW A.Rd A.Wz (w.setCell a u):=
 ⟨h.tape,h.os,h.output,by simpa [World.setCell]using h.size,λb hb=>(iY w a u (λe=>by rcases ha with ha|ha<;>(rw[ha]at e;first|exact hb.2.1 e|exact hb.2.2.1 e))).trans (h.heap b hb)⟩
theorem Turns.set{w:World}{a:Addr}{u:Value}(ha:a.block=A.Wg\/a.block=A.wB)(hl:A.Live (w.setCell a u)):A.Turns w (w.setCell a u):=by
 refine⟨?_,?_,?_,?_,λb hb=>iY w a u λe=>hb ?_,hl⟩
 ·rfl
 ·rfl
 ·rfl
 ·simp[World.setCell]
 ·exact .inr (ha.elim (λh=>.inl (e.trans h)) λh=>.inr (e.trans h))
theorem WB.set{w:World}{v:Int}(h:A.WB v w)(v':Int):A.WB v' (w.setCell A.Pz (.int .i64 v')):=by
 unfold gW.WB at h⊢
 rw[gW.Pz,setCell_eq_setRow w A.wB 0 _ A.tB (0,0) _ h,setRow_heap w A.wB _ _ A.tB _ h]
 simp
variable {N i : Nat} {se : Nat → Seat Ft} {w w' : World} {t t' : Trace}
theorem qL.upW(h:A.qL N se w t)(h1:A.N0<=i)(h2:i<N){s':Seat Ft}(hq:se i≠ .quit)(hs':Calm s'\/s'=.at .d2\/s'=.at .d3\/s'=.at .d4)
  (hmode:∀s st sm,WgAt A.tW A.Wg w st sm->A.Md N se s st sm->N+s.left=A.N0+4->∃st' sm',WgAt A.tW A.Wg w' st' sm'/\A.Md N (bU se i s') s st' sm')
  (hsum:∃c:Nat->Nat,A.WB ((sumTo (N-A.N0) λi=>c (A.N0+i):Nat):Int) w'/\∀k,A.N0<=k->k<N->c k<=A.bnd/\(∀r,bU se i s' k=.at (.own r)->c k+r=A.bnd)/\(rel (bU se i s') k->(c k=0↔A.gd (k-A.N0))))
  (htr:TR A.N0 A.Wg A.S0 (rel (bU se i s')) N t'):A.qL N (bU se i s') w' t':=by
 obtain⟨s,st,sm,g1,g2,g3,g4,g5,g6⟩:=h.mY
 obtain⟨st',sm',g7,g8⟩:=hmode s st sm g4 g5 g3
 have h0:bU se i s' 0=se 0:=aO _ _ (by have:=h.n0;omega)
 refine⟨h.n0,h.lo,⟨s,st',sm',by rw[h0];exact g1,g2,g3,g7,g8,λhf=> ?_⟩,λk k1 kN=>by rw[aO _ _ (by omega)];exact h.old k k1 kN,λk k1 kN=> ?_,hsum,htr,λk hk=>by rw[aO _ _ (by omega)];exact h.up k hk⟩
 ·subst hf
  cases g5 with
  |opn ho=>exact ho.elim
  |fin _ _ ho=>exact absurd (ho i h1 h2) hq
 ·by_cases hk:k=i
  ·rw[hk,aQ];exact hs'
  ·rw[aO _ _ hk];exact h.work k k1 kN
theorem sV{s':Seat Ft}{k:Nat}(h:rel (bU se i s') k):(k≠i/\rel se k)\/(k=i/\∀r,s'≠ .at (.own r)):=by
 by_cases hk:k=i
 ·subst hk;exact .inr ⟨rfl,λr e=>h r (by rw[aQ];exact e)⟩
 ·exact .inl ⟨hk,λr e=>h r (by rw[aO _ _ hk];exact e)⟩
theorem qL.Jz(h:A.qL N se w t)(h1:A.N0<=i)(h2:i<N)(hr:rel se i){s':Seat Ft}(hs:∀r,s'≠ .at (.own r))(hB:w'.heap[A.wB]? =w.heap[A.wB]?):
  ∃c:Nat->Nat,A.WB ((sumTo (N-A.N0) λi=>c (A.N0+i):Nat):Int) w'/\∀k,A.N0<=k->k<N->c k<=A.bnd/\(∀r,bU se i s' k=.at (.own r)->c k+r=A.bnd)/\(rel (bU se i s') k->(c k=0↔A.gd (k-A.N0))):=by
 obtain⟨c,hc1,hc2⟩:=h.sums
 refine⟨c,by unfold gW.WB at hc1⊢;rw[hB];exact hc1,λk k1 kN=> ?_⟩
 obtain⟨a1,a2,a3⟩:=hc2 k k1 kN
 by_cases hk:k=i
 ·subst hk
  exact⟨a1,λr e=>absurd (by rw[aQ]at e;exact e) (hs r),λ_=>a3 hr⟩
 ·exact⟨a1,λr e=>a2 r (by rw[aO _ _ hk]at e;exact e),λhrr=>a3 ((sV hrr).elim (·.2) λe=>absurd e.1 hk)⟩
theorem Md.keep{s:Ft}{st sm:Int}(h:A.Md N se s st sm)(hn:1<=A.N0)(h1:A.N0<=i)(h2:i<N){s':Seat Ft}(hc:counted (se i).tag=1)(hs':Calm s')(hc':counted s'.tag=1):A.Md N (bU se i s') s st sm:=by
 have hcnt:A.cnt N (bU se i s')=A.cnt N se:=by have:=Am (A:=A) se h1 h2 s';omega
 have hcalm:(∀k,A.N0<=k->k<N->Calm (se k))->∀k,A.N0<=k->k<N->Calm (bU se i s' k):=λhh k k1 kN=>by
  by_cases hk:k=i
  ·rw[hk,aQ];exact hs'
  ·rw[aO _ _ hk];exact hh k k1 kN
 have hq:se i≠ .quit:=λe=>by rw[e]at hc;simp[Seat.tag,counted]at hc
 have h0:bU se i s' 0=se 0:=aO _ _ (by omega)
 cases h with
 |opn ho hz hcl hs=>rw[<-hcnt];exact .opn ho (by rw[h0];exact hz) (hcalm hcl) (by rw[hcnt];exact hs)
 |reg hcl h1=>rw[<-hcnt];exact .reg (hcalm hcl) (by rw[hcnt];exact h1)
 |last L hL hN hs ho=>
  by_cases e:i=L
  ·subst e;rcases hs with e|e<;>(rw[e]at hc;simp[Seat.tag,counted]at hc)
  ·exact absurd (ho i h1 h2 e) hq
 |mX L hL hN hs ho=>
  by_cases e:i=L
  ·subst e;rw[hs]at hc;simp[Seat.tag,counted]at hc
  ·exact absurd (ho i h1 h2 e) hq
 |sema _ ho=>exact absurd (ho i h1 h2) hq
 |fin _ _ ho=>exact absurd (ho i h1 h2) hq
theorem qL.n4(h:A.qL N se w t):N<=A.N0+4:=by obtain⟨s,st,sm,_,_,h3,_⟩:=h.mY;omega
theorem qL.aiZ(h:A.qL N se w t):∃s,(se 0).tag=some s:=by
 obtain⟨s,st,sm,h1,_⟩:=h.mY
 rcases h1 with h1|⟨h1,_⟩<;>exact⟨s,by rw[h1];rfl⟩
end gW
end Go.Proofs.YtlncengggmgdgaaGreat.par
namespace Go.Proofs.YtlncengggmgdgaaGreat.par
open Go Go.Conc
open Go.ConcN (CT Apart Deaf_absent PermW RelBy sumTo sumTo_congr sumTo_upd le_sumTo sumTo_le)
open Go.ConcR (stA smA WgAt KK rd wr)
theorem pW{Wg d:Nat}{es:Array Event}(hd:0<d)(h:∀e∈es,∃ad wr,e=⟨.cell ad,wr,true⟩/\ad.block=Wg):pV Wg d es:=by
 intro j e he
 refine .inr ⟨h e (Array.mem_of_getElem? he),?_⟩
 rw[deafBehind_still (λe he=> ?_)]
 ·exact hd
 ·have:e∈es:=by
   rw[Array.mem_iff_getElem?]at he⊢
   obtain⟨k,hk⟩:=he
   rw[Array.getElem?_extract]at hk
   split at hk
   ·exact⟨_,hk⟩
   ·cases hk
  obtain⟨ad,wr,rfl,_⟩:=h e this
  exact⟨by simp,by simp⟩
theorem Ns{Wg d:Nat}:pV Wg d (semEvents (smA Wg)):=by
 intro j e he
 unfold semEvents at he⊢
 match j,he with
 |0,he=>simp at he;subst he;exact .inl rfl
 |1,he=>simp at he;subst he;exact .inr ⟨⟨_,_,rfl,rfl⟩,Nat.succ_pos d⟩
 |2,he=>simp at he;subst he;exact .inr ⟨⟨_,_,rfl,rfl⟩,Nat.succ_pos d⟩
 |3,he=>simp at he;subst he;exact .inl rfl
 |n+4,he=>simp at he
namespace gW
variable {A : gW} {Anch aU : (Nat → Prop) → Nat → Goroutine → World → Prop}
theorem VL(c:Nat->Nat){n i N0:Nat}(h1:N0<=i)(h2:i<N0+n)(y:Nat):sumTo n (λj=>Go.ConcN.upd c i y (N0+j))+c i=sumTo n (λj=>c (N0+j))+y:=by
 have:=sumTo_upd (λj=>c (N0+j)) y id (i:=i-N0) (j:=n) (by omega)
 simp only[id]at this
 rw[show N0+(i-N0)=i by omega]at this
 rw[<-this]
 congr 1
 refine sumTo_congr λj _=> ?_
 by_cases h:N0+j=i
 ·rw[h,Go.ConcN.upd_same,show j=i-N0 by omega,Go.ConcN.upd_same]
 ·rw[Go.ConcN.upd_ne _ _ h,Go.ConcN.upd_ne _ _ (by omega)]
theorem uO(se:Nat->Seat Ft){i N:Nat}(h1:A.N0<=i)(h2:i<N):counted (se i).tag<=A.cnt N se:=by
 have:=le_sumTo (f:=λj=>counted (se (A.N0+j)).tag) (i:=i-A.N0) (j:=N-A.N0) (by omega)
 rw[show A.N0+(i-A.N0)=i by omega]at this
 exact this
theorem cnt_le(se:Nat->Seat Ft){N:Nat}(h:N<=A.N0+4):A.cnt N se<=4:=by
 have:=sumTo_le (f:=λj=>counted (se (A.N0+j)).tag) (c:=1) (j:=N-A.N0) (λj _=>by
  cases(se (A.N0+j)).tag with
  |none=>simp[counted]
  |some s=>cases s<;>simp[counted])
 unfold gW.cnt
 omega
theorem wL{i:Nat}(h0:i≠0){s:Ft}{O:Nat->Prop}{d:Nat}{g:Goroutine}{w:World}(h:OT A.P false A.Env (A.gu i s) (A.stop Anch aU i s) O d g w):∃rk,(A.iI Anch aU).Sits i ⟨.at s,rk,O,d⟩ g w:=by
 obtain⟨r,hr⟩:=h.BO
 refine⟨r,?_⟩
 show Gj A.P (i==0) A.Env (A.gu i s) (A.stop Anch aU i s) r O d g w
 rw[show(i==0)=false by simpa using h0]
 exact hr
theorem oK(d:Nat)(a b:Addr):deafBehind d #[rd a,wr b]=d:=deafBehind_still (λe he=>by simp[rd,wr]at he;rcases he with rfl|rfl<;>exact⟨by simp,by simp⟩) d
theorem wM(d:Nat)(a:Addr):deafBehind d #[rd a]=d:=deafBehind_still (λe he=>by simp[rd]at he;subst he;exact⟨by simp,by simp⟩) d
theorem Zm(d:Nat)(a:Addr):deafBehind d #[wr a]=d:=deafBehind_still (λe he=>by simp[wr]at he;subst he;exact⟨by simp,by simp⟩) d
theorem PE(d:Nat)(m:Mark)(h:m≠ .disable/\m≠ .enable):deafBehind d #[Go.ConcR.mk m]=d:=deafBehind_still (λe he=>by simp[Go.ConcR.mk]at he;subst he;exact⟨λh1=>h.1 (by cases h1;rfl),λh1=>h.2 (by cases h1;rfl)⟩) d
theorem JA(d:Nat)(a:Addr):deafBehind d (semEvents a)=d:=by
 unfold semEvents
 show d+1-1=d
 omega
section
variable {gs : Array Goroutine} {w : World} {t : Trace} {x : Nat → GR Ft} {g : Goroutine} {i : Nat} {m : Machine} {sl : Option (Nat × Nat)} {s : Ft}
structure At(A:gW)(Anch aU:(Nat->Prop)->Nat->Goroutine->World->Prop)(K:Machine->Trace->Prop)(gs:Array Goroutine)(w:World)(sl:Option (Nat×Nat))(m:Machine)(t:Trace)(x:Nat->GR Ft)(i:Nat)(g:Goroutine)(s:Ft):Prop where
 n:1<=A.N0
 ne:A.Wg≠A.wB
 bnd:4*A.bnd<9223372036854775807
 back:∀m t m' ops,stepT A.P m=(.next m',ops)->K m' (t++ops)->K m t
 p:(A.iI Anch aU).Parts gs w t x
 gi:gs[i]? =some g
 seat:(x i).seat=.at s
 st:stepT A.P m=runT A.P (crowd gs w sl) i
 ih:∀gs' w' sl' t' x',(A.iI Anch aU).Parts gs' w' t' x'->yu (A.N0+3) ((A.iI Anch aU).mu x') ((A.iI Anch aU).mu x)->K (crowd gs' w' sl') t'
variable {K : Machine → Trace → Prop}
theorem At.lt(h:At A Anch aU K gs w sl m t x i g s):i<gs.size:=(Array.getElem?_eq_some_iff.1 h.gi).1
theorem At.grp(h:At A Anch aU K gs w sl m t x i g s):A.qL gs.size (λk=>(x k).seat) w t:=h.p.pm
theorem At.deaf(h:At A Anch aU K gs w sl m t x i g s):Deaf t i=(x i).deaf:=h.p.deaf i h.lt
theorem At.worker(h:At A Anch aU K gs w sl m t x i g s)(hN:A.N0<=i){g':Goroutine}{w':World}{es:Array Event}(hgo:stepG A.P false g w=.go g' w' es)(s':Seat Ft)(hy:∃rk,(A.iI Anch aU).Sits i ⟨s',rk,(x i).own,deafBehind (x i).deaf es⟩ g' w')(hw:A.Turns w w')
  (hev:∀e∈es,Event.mute e=true\/EvS A.Sh (i=0) e) (hun:s'.un=s')
  (hpm:∀fn pos,A.qL gs.size (bU (λk=>(x k).seat) i s') w' (t++MemOp.ofEvents i fn pos es)\/((A.iI Anch aU).ug g g'=true/\A.qL gs.size (λk=>(bU (λk=>(x k).seat) i s' k).un) w' (t++MemOp.ofEvents i fn pos es)))
  (hc:counted s'.tag<=counted (some s)) (hwt:wt s'.tag<wt (some s)):K m t:=by
 have hi0:i≠0:=by have:=h.n;omega
 obtain⟨rk,hy⟩:=hy
 obtain⟨s0,hs0⟩:=h.grp.aiZ
 have ht:(x i).seat.tag=some s:=by rw[h.seat];rfl
 refine BU h.n K h.back h.p h.gi h.st h.ih (by rw[show(i==0)=false by simpa using hi0];exact hgo) s' rk hy hw hev (λ_=>hN) (λ_=>hun) (λfn pos=> ?_) (.inl (Nr (λk=>(x k).seat) h.n hs0 hN (by have:=h.grp.n4;have:=h.lt;omega) s' (by rw[ht];exact hc) (by rw[ht];exact hwt)))
 rcases hpm fn pos with h1|⟨h1,h2⟩
 ·split
  ·exact h1.EN
  ·exact h1
 ·rw[if_pos h1];exact h2
theorem At.release(h:At A Anch aU K gs w sl m t x i g s)(hN:A.N0<=i){r:Nat}(hs:s=.own r)(hS:A.Rel (i-A.N0) r (x i).own (x i).deaf g w):K m t:=by
 subst hs
 have hi0:i≠0:=by have:=h.n;omega
 obtain⟨hd,_,hgd,g',hgo,hO⟩:=hS
 have hd':Deaf t i=0:=by rw[h.deaf,hd]
 have hse:(λk=>(x k).seat) i=.at (.own r):=h.seat
 refine h.worker hN hgo (.at .d1) ?_ (Turns.id h.p.live) (λe he=>.inr ?_) rfl (λfn pos=>.inl ?_) (by simp[Seat.tag,counted]) (by simp only[Seat.tag,wt,Ft.weigh];omega)
 ·rw[hd,PE 0 _ ⟨by simp,by simp⟩]
  exact wL hi0 hO
 ·simp[Go.ConcR.mk]at he
  subst he
  exact .inr (.inl (.inr ⟨_,rfl,.inr (.inl rfl)⟩))
 ·refine h.grp.upW hN h.lt (by rw[h.seat];intro e;cases e) (.inl (.inr (.inr rfl))) (λs0 st sm g4 g5 _=>⟨st,sm,g4,g5.keep h.n hN h.lt (by rw[h.seat];rfl) (.inr (.inr rfl)) rfl⟩) ?_ ?_
  ·obtain⟨c,hc1,hc2⟩:=h.grp.sums
   refine⟨c,hc1,λk k1 kN=> ?_⟩
   obtain⟨a1,a2,a3⟩:=hc2 k k1 kN
   by_cases hk:k=i
   ·subst hk
    have:=a2 r hse
    exact⟨a1,λr' e=>(by rw[aQ]at e;cases e),λ_=>(by rw[<-hgd];omega)⟩
   ·exact⟨a1,λr' e=>(a2 r' (by rw[aO _ _ hk]at e;exact e)),λhr=>a3 ((sV hr).elim (·.2) λe=>absurd e.1 hk)⟩
  ·exact h.grp.tr.release hN hi0 fn pos hd' (λk hk=>(sV hk).imp (·.2) (·.1)) λhr=>hr r hse
theorem At.add(h:At A Anch aU K gs w sl m t x i g s)(hN:A.N0<=i){r:Nat}(hs:s=.own (r+1))(hS:(x i).deaf=0/\g.status=.running/\∀v:Int,0<=v->v<9223372036854775807->A.WB v w->
   ∃g',stepG A.P false g w=.go g' (w.setCell A.Pz (.int .i64 (v+1))) #[rd A.Pz,wr A.Pz]/\A.LW (A.Own (i-A.N0) r) (x i).own 0 g' (w.setCell A.Pz (.int .i64 (v+1)))):K m t:=by
 subst hs
 have hi0:i≠0:=by have:=h.n;omega
 obtain⟨hd,_,hS⟩:=hS
 have hse:(λk=>(x k).seat) i=.at (.own (r+1)):=h.seat
 obtain⟨c,hc1,hc2⟩:=h.grp.sums
 have hn4:=h.grp.n4
 have hlt:=h.lt
 have hsum:sumTo (gs.size-A.N0) (λj=>c (A.N0+j))<=A.bnd*(gs.size-A.N0):=sumTo_le λj hj=>(hc2 (A.N0+j) (by omega) (by omega)).1
 have hb2:A.bnd*(gs.size-A.N0)<=A.bnd*4:=Nat.mul_le_mul_left _ (by omega)
 have hbb:=h.bnd
 obtain⟨g',hgo,hO⟩:=hS _ (Int.natCast_nonneg _) (by omega) hc1
 have hci:=(hc2 i hN hlt).2.1 (r+1) hse
 have hs2:=VL c hN (show i<A.N0+(gs.size-A.N0) by omega) (c i+1)
 have hWB:=WB.set hc1 (((sumTo (gs.size-A.N0) λi=>c (A.N0+i):Nat):Int)+1)
 have UD:∀u,(w.setCell A.Pz u).heap[A.Wg]? =w.heap[A.Wg]? :=λu=>iY w A.Pz u h.ne
 refine h.worker hN hgo (.at (.own r)) ?_ (Turns.set (.inr rfl) ⟨⟨?_,_,hWB⟩,gy h.p.live.2 (.inr rfl) _⟩) (λe he=>.inr ?_) rfl (λfn pos=>.inl ?_) (by simp[Seat.tag,counted]) (by simp only[Seat.tag,wt,Ft.weigh];omega)
 ·rw[hd,oK]
  exact wL hi0 hO
 ·obtain⟨⟨⟨st,sm,h1⟩,_⟩,_⟩:=h.p.live
  exact⟨st,sm,by unfold WgAt at h1⊢;rw[UD];exact h1⟩
 ·simp[rd,wr]at he
  rcases he with rfl|rfl<;>exact .inl ⟨_,_,rfl,.inr (.inr rfl)⟩
 ·refine h.grp.upW hN hlt (by rw[h.seat];intro e;cases e) (.inl (.inr (.inl ⟨r,rfl⟩))) (λs0 st sm g4 g5 _=>⟨st,sm,by unfold WgAt at g4⊢;rw[UD];exact g4,g5.keep h.n hN hlt (by rw[h.seat];rfl) (.inr (.inl ⟨r,rfl⟩)) rfl⟩) ?_ ?_
  ·refine⟨Go.ConcN.upd c i (c i+1),?_,λk k1 kN=> ?_⟩
   ·rw[show sumTo (gs.size-A.N0) (λj=>Go.ConcN.upd c i (c i+1) (A.N0+j))=sumTo (gs.size-A.N0) (λj=>c (A.N0+j))+1 by omega]
    exact hWB
   ·obtain⟨a1,a2,a3⟩:=hc2 k k1 kN
    by_cases hk:k=i
    ·subst hk
     rw[Go.ConcN.upd_same]
     exact⟨by omega,λr' e=>(by rw[aQ]at e;cases e;omega),λhr=>(hr r (aQ _ _ _)).elim⟩
    ·rw[Go.ConcN.upd_ne _ _ hk]
     exact⟨a1,λr' e=>(a2 r' (by rw[aO _ _ hk]at e;exact e)),λhr=>a3 ((sV hr).elim (·.2) λe=>absurd e.1 hk)⟩
  ·refine(h.grp.tr.app i fn pos (λe he hh=> ?_) (λ_ hl=>absurd hl (by omega)) (λhr _=>absurd hse (hr (r+1)))).mono λk k1 kN hr=> ?_
   ·simp[rd,wr]at he
    rcases he with rfl|rfl<;>cases hh
   ·rcases sV hr with⟨_,h1⟩|⟨_,h1⟩
    ·exact h1
    ·exact absurd rfl (h1 r)
end
end gW
end Go.Proofs.YtlncengggmgdgaaGreat.par
namespace Go.Proofs.YtlncengggmgdgaaGreat.par
open Go Go.Conc
open Go.ConcN (CT Apart Deaf_absent PermW RelBy sumTo sumTo_congr sumTo_upd le_sumTo sumTo_le)
open Go.ConcR (stA smA WgAt KK rd wr)
namespace gW
variable {A : gW} {Anch aU : (Nat → Prop) → Nat → Goroutine → World → Prop}
section
variable {gs : Array Goroutine} {w w' : World} {t : Trace} {x : Nat → GR Ft} {g : Goroutine} {i : Nat} {m : Machine} {sl : Option (Nat × Nat)} {s : Ft} {K : Machine → Trace → Prop}
theorem At.nO(h:At A Anch aU K gs w sl m t x i g s){st sm:Int}(h1:WgAt A.tW A.Wg w' st sm)(h2:w'.heap[A.wB]? =w.heap[A.wB]?)(h3:mW A.Rd A.Wz w'):A.Live w':=by
 obtain⟨⟨_,v,hv⟩,_⟩:=h.p.live
 exact⟨⟨⟨st,sm,h1⟩,v,by unfold gW.WB at hv⊢;rw[h2];exact hv⟩,h3⟩
theorem At.sets(h:At A Anch aU K gs w sl m t x i g s)(a:Addr)(ha:a.block=A.Wg)(u:Value):(w.setCell a u).heap[A.wB]? =w.heap[A.wB]? :=iY w a u (by rw[ha];exactλe=>h.ne e.symm)
theorem At.behind(h:At A Anch aU K gs w sl m t x i g s)(hN:A.N0<=i)(hsr:∀r,s≠ .own r){g':Goroutine}{es:Array Event}(hgo:stepG A.P false g w=.go g' w' es)(s':Seat Ft)(hy:∃rk,(A.iI Anch aU).Sits i ⟨s',rk,(x i).own,deafBehind (x i).deaf es⟩ g' w')(hw:A.Turns w w')(hB:w'.heap[A.wB]? =w.heap[A.wB]?)
  (hev:∀e∈es,Event.mute e=true\/∃a b,e=⟨.cell a,b,true⟩/\a.block=A.Wg) (hdf:pV A.Wg (x i).deaf es) (hs':s'=.quit\/s'=.at .d2\/s'=.at .d3\/s'=.at .d4) (hc:counted s'.tag<=counted (some s)) (hwt:wt s'.tag<wt (some s))
  {s0:Ft} {st sm:Int} (g1:(λk=>(x k).seat) 0=.at s0\/((λk=>(x k).seat) 0=.blk s0/\s0=.w3)) (g2:s0.main) (g3:gs.size+s0.left=A.N0+4) (g5:A.Md gs.size (λk=>(x k).seat) s0 st sm)
  (hmode:∃st' sm',WgAt A.tW A.Wg w' st' sm'/\(A.Md gs.size (bU (λk=>(x k).seat) i s') s0 st' sm'\/((A.iI Anch aU).ug g g'=true/\A.Md gs.size (λk=>(bU (λk=>(x k).seat) i s' k).un) s0 st' sm'))):K m t:=by
 have hi0:i≠0:=by have:=h.n;omega
 have hse:(λk=>(x k).seat) i=.at s:=h.seat
 have hrel:rel (λk=>(x k).seat) i:=λr e=>hsr r (by rw[hse]at e;cases e;rfl)
 have hso:∀r,s'≠ .at (.own r):=λr e=>by rcases hs' with h|h|h|h<;>rw[h]at e<;>cases e
 have hun:s'.un=s':=by rcases hs' with h|h|h|h<;>rw[h]<;>rfl
 have hq:(x i).seat≠ .quit:=by rw[h.seat];intro e;cases e
 have hcalm:Calm s'\/s'=.at .d2\/s'=.at .d3\/s'=.at .d4:=hs'.imp (λh=>.inl h) id
 have htr:∀fn pos,TR A.N0 A.Wg A.S0 (rel (bU (λk=>(x k).seat) i s')) gs.size (t++MemOp.ofEvents i fn pos es):=λfn pos=>by
  refine(h.grp.tr.app i fn pos (λe he hh=> ?_) (λ_ hl=>absurd hl (by omega)) (λ_ _=>by rw[h.deaf];exact hdf)).mono λk k1 kN hr=> ?_
  ·rcases hev e he with h1|⟨a,b,rfl,_⟩
   ·obtain⟨loc,wr,sy⟩:=e
    dsimp only at hh
    subst hh
    simp[Event.mute]at h1
   ·cases hh
  ·rcases sV hr with⟨_,h1⟩|⟨rfl,_⟩
   ·exact h1
   ·exact hrel
 obtain⟨st',sm',g7,g8⟩:=hmode
 have h0:bU (λk=>(x k).seat) i s' 0=(x 0).seat:=aO _ _ (λe=>hi0 e.symm)
 refine h.worker hN hgo s' hy hw (λe he=>(hev e he).imp id λ⟨a,b,h1,h2⟩=>.inl ⟨a,b,h1,.inr (.inl h2)⟩) hun (λfn pos=> ?_) hc hwt
 have hfin:∀{s1:Ft},s1=s0->s1=.fin->False:=λe1 e2=>by
  subst e1;subst e2
  cases g5 with
  |opn ho=>exact ho.elim
  |fin _ _ ho=>exact hq (ho i hN h.lt)
 rcases g8 with g8|⟨hm,g8⟩
 ·refine .inl ⟨h.n,h.grp.lo,⟨s0,st',sm',by rw[h0];exact g1,g2,g3,g7,g8,λe=>(hfin rfl e).elim⟩,λk k1 kN=>by rw[aO _ _ (by omega)];exact h.grp.old k k1 kN,λk k1 kN=> ?_,h.grp.Jz hN h.lt hrel hso hB,htr fn pos,λk hk=>by rw[aO _ _ (by have:=h.lt;omega)];exact h.grp.up k hk⟩
  by_cases hk:k=i
  ·rw[hk,aQ];exact hcalm
  ·rw[aO _ _ hk];exact h.grp.work k k1 kN
 ·have hw1:∀k,A.N0<=k->k<gs.size->(bU (λk=>(x k).seat) i s' k).un=bU (λk=>(x k).seat) i s' k:=λk k1 kN=>by
   by_cases hk:k=i
   ·rw[hk,aQ];exact hun
   ·rw[aO _ _ hk];exact PD (h.grp.work k k1 kN)
  obtain⟨c,hc1,hc2⟩:=h.grp.Jz hN h.lt hrel hso hB
  refine .inr ⟨hm,h.n,h.grp.lo,⟨s0,st',sm',.inl ?_,g2,g3,g7,g8,λe=>(hfin rfl e).elim⟩,λk k1 kN=> ?_,λk k1 kN=> ?_,⟨c,hc1,λk k1 kN=> ?_⟩,(htr fn pos).mono λk k1 kN hr r e=>hr r ?_,λk hk=>by
   show(bU (λk=>(x k).seat) i s' k).un=_
   rw[aO _ _ (by have:=h.lt;omega),show(x k).seat=_ from h.grp.up k hk]
   rfl⟩
  ·show(bU (λk=>(x k).seat) i s' 0).un=_
   rw[h0]
   rcases g1 with g1|⟨g1,_⟩<;>rw[show(x 0).seat=_ from g1]<;>rfl
  ·show(bU (λk=>(x k).seat) i s' k).un=_
   rw[aO _ _ (by omega),show(x k).seat=_ from h.grp.old k k1 kN]
   rfl
  ·rw[hw1 k k1 kN]
   by_cases hk:k=i
   ·rw[hk,aQ];exact hcalm
   ·rw[aO _ _ hk];exact h.grp.work k k1 kN
  ·obtain⟨a1,a2,a3⟩:=hc2 k k1 kN
   exact⟨a1,λr e=>a2 r (by rw[<-hw1 k k1 kN];exact e),λhr=>a3 λr e=>hr r (show(bU (λk=>(x k).seat) i s' k).un=_ from by rw[hw1 k k1 kN];exact e)⟩
  ·show(bU (λk=>(x k).seat) i s' k).un=_
   rw[hw1 k k1 kN];exact e
theorem yA{i q:Nat}(h0:i≠0){O:Nat->Prop}{d:Nat}{g:Goroutine}{w:World}(h:QuitsD A.P q d g):∃rk,(A.iI Anch aU).Sits i ⟨.quit,rk,O,d⟩ g w:=⟨Rk.nat q,h0,q,rfl,h⟩
theorem Calm.upd{N:Nat}{se:Nat->Seat Ft}{s':Seat Ft}(h:∀k,A.N0<=k->k<N->Calm (se k))(hs:Calm s'):∀k,A.N0<=k->k<N->Calm (bU se i s' k):=λk k1 kN=>by
 by_cases hk:k=i
 ·rw[hk,aQ];exact hs
 ·rw[aO _ _ hk];exact h k k1 kN
theorem Zn{N:Nat}{se:Nat->Seat Ft}(h:∀k,A.N0<=k->k<N->Calm (se k))(h1:A.N0<=i)(h2:i<N)(hc:counted (se i).tag=1)(h3:A.cnt N se=1):∀k,A.N0<=k->k<N->k≠i->se k=.quit:=by
 intro k k1 kN hk
 have e1:=Am (A:=A) se h1 h2 .quit
 have e2:=uO (A:=A) (bU se i .quit) k1 kN
 rw[aO _ _ hk]at e2
 have e3:counted (Seat.tag (.quit:Seat Ft))=0:=rfl
 rcases h k k1 kN with h4|⟨r,h4⟩|h4
 ·exact h4
 ·rw[h4]at e2;simp[Seat.tag,counted]at e2;omega
 ·rw[h4]at e2;simp[Seat.tag,counted]at e2;omega
theorem At.done(h:At A Anch aU K gs w sl m t x i g s)(hN:A.N0<=i)(hs:s=.d1)(hS:A.D1 (x i).own (x i).deaf g w):K m t:=by
 subst hs
 have hi0:i≠0:=by have:=h.n;omega
 obtain⟨hd,_,hS⟩:=hS
 have hse:(λk=>(x k).seat) i=.at .d1:=h.seat
 have hci:counted (x i).seat.tag=1:=by rw[h.seat];rfl
 obtain⟨s0,st,sm,g1,g2,g3,g4,g5,g6⟩:=h.grp.mY
 have hcl:=uO (A:=A) (λk=>(x k).seat) hN h.lt
 have hc4:=cnt_le (A:=A) (λk=>(x k).seat) h.grp.n4
 have hcq:=Am (A:=A) (λk=>(x k).seat) hN h.lt .quit
 have hc2:=Am (A:=A) (λk=>(x k).seat) hN h.lt (.at .d2)
 have z1:counted (Seat.tag (.quit:Seat Ft))=0:=rfl
 have z2:counted (Seat.tag (.at .d2:Seat Ft))=0:=rfl
 rw[z1]at hcq
 rw[z2]at hc2
 rw[hci]at hcl hcq hc2
 have hev:∀e∈(#[rd (stA A.Wg),wr (stA A.Wg)]:Array Event),∃a b,e=⟨.cell a,b,true⟩/\a.block=A.Wg:=λe he=>by
  simp[rd,wr]at he
  rcases he with rfl|rfl<;>exact⟨_,_,rfl,rfl⟩
 have hdf:pV A.Wg (x i).deaf #[rd (stA A.Wg),wr (stA A.Wg)]:=pW (by omega) hev
 have hq:(x i).seat≠ .quit:=by rw[h.seat];intro e;cases e
 have hnd:∀s1,s1=Ft.d2\/s1=Ft.d3\/s1=Ft.d4->(x i).seat≠ .at s1:=λs1 h1 e=>by rw[h.seat]at e;cases e;rcases h1 with h1|h1|h1<;>cases h1
 have h0u:∀s',bU (λk=>(x k).seat) i s' 0=(x 0).seat:=λs'=>aO _ _ (λe=>hi0 e.symm)
 have YJ:=g5
 cases g5 with
 |opn ho hz kK hvs=>
  have hv1:((A.cnt gs.size (λk=>(x k).seat)+s0.pend:Nat):Int)=((A.cnt gs.size (λk=>(x k).seat)+s0.pend-1:Nat):Int)+1:=by omega
  have hp1:s0.pend<=1:=by cases s0<;>simp[Ft.pend]
  generalize hv:A.cnt gs.size (λk=>(x k).seat)+s0.pend-1=v at hv1
  obtain⟨g',hgo,_,hqq⟩:=hS v 0 (by omega) (by omega) (by rw[<-hv1];simpa using g4)
  obtain⟨q,hqq⟩:=hqq (λe=>by cases e.2)
  have hW:=g4.setSt (((v:Nat):Int)*KK+((0:Nat):Int))
  refine h.behind hN (λr e=>by cases e) hgo .quit ?_ (Turns.set (.inl rfl) (h.nO hW (h.sets _ rfl _) (gy h.p.live.2 (.inl rfl) _))) (h.sets _ rfl _) (λe he=>.inr (hev e he)) hdf (.inl rfl) (by simp[Seat.tag,counted]) (by simp[Seat.tag,wt,Ft.weigh]) g1 g2 g3 YJ ⟨_,_,hW,.inl ?_⟩
  ·rw[hd,oK];exact yA hi0 hqq
  ·have e1:((v:Nat):Int)*KK+((0:Nat):Int)=((A.cnt gs.size (bU (λk=>(x k).seat) i .quit)+s0.pend:Nat):Int)*KK:=by
    have:v=A.cnt gs.size (bU (λk=>(x k).seat) i .quit)+s0.pend:=by omega
    rw[this];simp
   rw[e1]
   exact .opn ho (by rw[h0u];exact hz) (Calm.upd kK (.inl rfl)) λvs e=>by have:=hvs vs e;exact⟨by omega,this.2⟩
 |reg kK h1=>
  have hv1:((A.cnt gs.size (λk=>(x k).seat):Nat):Int)=((A.cnt gs.size (λk=>(x k).seat)-1:Nat):Int)+1:=by omega
  generalize hv:A.cnt gs.size (λk=>(x k).seat)-1=v at hv1
  obtain⟨g',hgo,hla,hqq⟩:=hS v 1 (by omega) (by omega) (by rw[<-hv1];exact g4)
  have hW:=g4.setSt (((v:Nat):Int)*KK+((1:Nat):Int))
  rcases Nat.eq_zero_or_pos v with h0|h0
  ·have hO:=hla ⟨h0,rfl⟩
   refine h.behind hN (λr e=>by cases e) hgo (.at .d2) ?_ (Turns.set (.inl rfl) (h.nO hW (h.sets _ rfl _) (gy h.p.live.2 (.inl rfl) _))) (h.sets _ rfl _) (λe he=>.inr (hev e he)) hdf (.inr (.inl rfl)) (by simp[Seat.tag,counted]) (by simp[Seat.tag,wt,Ft.weigh]) g1 g2 g3 YJ ⟨_,_,hW,.inl ?_⟩
   ·rw[hd,oK];exact wL hi0 hO
   ·have e1:((v:Nat):Int)*KK+((1:Nat):Int)=1:=by rw[h0];simp
    rw[e1]
    have hone:=Zn kK hN h.lt hci (by omega)
    exact .last i hN h.lt (.inl (aQ _ _ _)) λk k1 kN hk=>by rw[aO _ _ hk];exact hone k k1 kN hk
  ·obtain⟨q,hqq⟩:=hqq (λe=>by omega)
   refine h.behind hN (λr e=>by cases e) hgo .quit ?_ (Turns.set (.inl rfl) (h.nO hW (h.sets _ rfl _) (gy h.p.live.2 (.inl rfl) _))) (h.sets _ rfl _) (λe he=>.inr (hev e he)) hdf (.inl rfl) (by simp[Seat.tag,counted]) (by simp[Seat.tag,wt,Ft.weigh]) g1 g2 g3 YJ ⟨_,_,hW,.inl ?_⟩
   ·rw[hd,oK];exact yA hi0 hqq
   ·have e1:((v:Nat):Int)*KK+((1:Nat):Int)=((A.cnt gs.size (bU (λk=>(x k).seat) i .quit):Nat):Int)*KK+1:=by
     have:v=A.cnt gs.size (bU (λk=>(x k).seat) i .quit):=by omega
     rw[this];simp
    rw[e1]
    exact .reg (Calm.upd kK (.inl rfl)) (by omega)
 |last L hL hLN hs ho=>
  by_cases e:i=L
  ·subst e;rcases hs with e|e
   ·exact absurd e (hnd _ (.inl rfl))
   ·exact absurd e (hnd _ (.inr (.inl rfl)))
  ·exact absurd (ho i hN h.lt e) hq
 |mX L hL hLN hs ho=>
  by_cases e:i=L
  ·subst e;exact absurd hs (hnd _ (.inr (.inr rfl)))
  ·exact absurd (ho i hN h.lt e) hq
 |sema _ ho=>exact absurd (ho i hN h.lt) hq
 |fin _ _ ho=>exact absurd (ho i hN h.lt) hq
theorem At.last2(h:At A Anch aU K gs w sl m t x i g s)(hN:A.N0<=i)(hs:s=.d2)(hS:A.D2 (x i).own (x i).deaf g w):K m t:=by
 subst hs
 have hi0:i≠0:=by have:=h.n;omega
 obtain⟨hd,_,hS⟩:=hS
 have hq:(x i).seat≠ .quit:=by rw[h.seat];intro e;cases e
 have hev:∀e∈(#[rd (stA A.Wg)]:Array Event),∃a b,e=⟨.cell a,b,true⟩/\a.block=A.Wg:=λe he=>by
  simp[rd]at he
  subst he;exact⟨_,_,rfl,rfl⟩
 obtain⟨s0,st,sm,g1,g2,g3,g4,g5,g6⟩:=h.grp.mY
 have YJ:=g5
 have hnc:¬Calm (x i).seat:=by rw[h.seat];rintro(h|⟨r,h⟩|h)<;>cases h
 cases g5 with
 |opn _ _ kK _=>exact absurd (kK i hN h.lt) hnc
 |reg kK _=>exact absurd (kK i hN h.lt) hnc
 |last L hL hLN hs ho=>
  have e:i=L:=Classical.byContradiction λe=>hq (ho i hN h.lt e)
  subst e
  obtain⟨g',hgo,hO⟩:=hS g4
  refine h.behind hN (λr e=>by cases e) hgo (.at .d3) ?_ (Turns.id h.p.live) rfl (λe he=>.inr (hev e he)) (pW (by omega) hev) (.inr (.inr (.inl rfl))) (by simp[Seat.tag,counted]) (by simp[Seat.tag,wt,Ft.weigh]) g1 g2 g3 YJ ⟨_,_,g4,.inl ?_⟩
  ·rw[hd,wM];exact wL hi0 hO
  ·exact .last i hN h.lt (.inr (aQ _ _ _)) λk k1 kN hk=>by rw[aO _ _ hk];exact ho k k1 kN hk
 |mX L hL hLN hs ho=>
  by_cases e:i=L
  ·subst e;have:=h.seat;rw[show(x i).seat=_ from hs]at this;cases this
  ·exact absurd (ho i hN h.lt e) hq
 |sema _ ho=>exact absurd (ho i hN h.lt) hq
 |fin _ _ ho=>exact absurd (ho i hN h.lt) hq
theorem At.last3(h:At A Anch aU K gs w sl m t x i g s)(hN:A.N0<=i)(hs:s=.d3)(hS:A.D3 (x i).own (x i).deaf g w):K m t:=by
 subst hs
 have hi0:i≠0:=by have:=h.n;omega
 obtain⟨hd,_,hS⟩:=hS
 have hq:(x i).seat≠ .quit:=by rw[h.seat];intro e;cases e
 have hev:∀e∈(#[wr (stA A.Wg)]:Array Event),∃a b,e=⟨.cell a,b,true⟩/\a.block=A.Wg:=λe he=>by
  simp[wr]at he
  subst he;exact⟨_,_,rfl,rfl⟩
 obtain⟨s0,st,sm,g1,g2,g3,g4,g5,g6⟩:=h.grp.mY
 have YJ:=g5
 have hnc:¬Calm (x i).seat:=by rw[h.seat];rintro(h|⟨r,h⟩|h)<;>cases h
 cases g5 with
 |opn _ _ kK _=>exact absurd (kK i hN h.lt) hnc
 |reg kK _=>exact absurd (kK i hN h.lt) hnc
 |last L hL hLN hs ho=>
  have e:i=L:=Classical.byContradiction λe=>hq (ho i hN h.lt e)
  subst e
  obtain⟨g',hgo,hO⟩:=hS g4
  have hW:=g4.setSt 0
  refine h.behind hN (λr e=>by cases e) hgo (.at .d4) ?_ (Turns.set (.inl rfl) (h.nO hW (h.sets _ rfl _) (gy h.p.live.2 (.inl rfl) _))) (h.sets _ rfl _) (λe he=>.inr (hev e he)) (pW (by omega) hev) (.inr (.inr (.inr rfl))) (by simp[Seat.tag,counted]) (by simp[Seat.tag,wt,Ft.weigh]) g1 g2 g3 YJ ⟨_,_,hW,.inl ?_⟩
  ·rw[hd,Zm];exact wL hi0 hO
  ·exact .mX i hN h.lt (aQ _ _ _) λk k1 kN hk=>by rw[aO _ _ hk];exact ho k k1 kN hk
 |mX L hL hLN hs ho=>
  by_cases e:i=L
  ·subst e;have:=h.seat;rw[show(x i).seat=_ from hs]at this;cases this
  ·exact absurd (ho i hN h.lt e) hq
 |sema _ ho=>exact absurd (ho i hN h.lt) hq
 |fin _ _ ho=>exact absurd (ho i hN h.lt) hq
theorem At.mX(h:At A Anch aU K gs w sl m t x i g s)(hN:A.N0<=i)(hs:s=.d4)(hS:A.D4 (x i).own (x i).deaf g w):K m t:=by
 subst hs
 have hi0:i≠0:=by have:=h.n;omega
 obtain⟨hd,_,hmw,hS⟩:=hS
 have hq:(x i).seat≠ .quit:=by rw[h.seat];intro e;cases e
 have hev:∀e∈semEvents (smA A.Wg),Event.mute e=true\/∃a b,e=⟨.cell a,b,true⟩/\a.block=A.Wg:=λe he=>by
  simp[semEvents]at he
  rcases he with rfl|rfl|rfl|rfl
  ·exact .inl rfl
  ·exact .inr ⟨_,_,rfl,rfl⟩
  ·exact .inr ⟨_,_,rfl,rfl⟩
  ·exact .inl rfl
 obtain⟨s0,st,sm,g1,g2,g3,g4,g5,g6⟩:=h.grp.mY
 have YJ:=g5
 have hnc:¬Calm (x i).seat:=by rw[h.seat];rintro(h|⟨r,h⟩|h)<;>cases h
 cases g5 with
 |opn _ _ kK _=>exact absurd (kK i hN h.lt) hnc
 |reg kK _=>exact absurd (kK i hN h.lt) hnc
 |last L hL hLN hs ho=>
  by_cases e:i=L
  ·subst e;have:=h.seat
   rcases hs with hs|hs<;>(rw[show(x i).seat=_ from hs]at this;cases this)
  ·exact absurd (ho i hN h.lt e) hq
 |mX L hL hLN hs ho=>
  have e:i=L:=Classical.byContradiction λe=>hq (ho i hN h.lt e)
  subst e
  obtain⟨g',hgo,q,hqq⟩:=hS g4
  have hW:=g4.setSm 1
  have hm:(A.iI Anch aU).ug g g'=true:=by
   unfold dY.ug
   rw[show mayWake (A.iI Anch aU).P g=true from hmw]
   rcases hqq.status with e|e<;>rw[e]<;>rfl
  refine h.behind hN (λr e=>by cases e) hgo .quit ?_ (Turns.set (.inl rfl) (h.nO hW (h.sets _ rfl _) (gy h.p.live.2 (.inl rfl) _))) (h.sets _ rfl _) hev Ns (.inl rfl) (by simp[Seat.tag,counted]) (by simp[Seat.tag,wt,Ft.weigh]) g1 g2 g3 YJ ⟨_,_,hW,.inr ⟨hm,?_⟩⟩
  ·rw[hd,JA];exact yA hi0 hqq
  ·refine .sema ?_ λk k1 kN=> ?_
   ·show(bU (λk=>(x k).seat) i .quit 0).un=_
    rw[aO _ _ (λe=>hi0 e.symm)]
    rcases g1 with g1|⟨g1,_⟩<;>rw[show(x 0).seat=_ from g1]<;>rfl
   ·show(bU (λk=>(x k).seat) i .quit k).un=_
    by_cases hk:k=i
    ·rw[hk,aQ];rfl
    ·rw[aO _ _ hk,show(x k).seat=_ from ho k k1 kN hk];rfl
 |sema _ ho=>exact absurd (ho i hN h.lt) hq
 |fin _ _ ho=>exact absurd (ho i hN h.lt) hq
theorem At.work(h:At A Anch aU K gs w sl m t x i g s)(hN:A.N0<=i)(hS:A.stop Anch aU i s (x i).own (x i).deaf g w):K m t:=by
 rcases h.grp.who h.lt h.seat with⟨h0,_⟩|⟨_,⟨r,hr⟩|rfl|rfl|rfl|rfl⟩
 ·have:=h.n;omega
 ·subst hr
  have hS':A.Own (i-A.N0) r (x i).own (x i).deaf g w:=hS
  cases r with
  |zero=>exact h.release hN rfl hS'
  |succ r=>
   rcases hS' with hS'|hS'
   ·exact h.release hN rfl hS'
   ·exact h.add hN rfl hS'
 ·exact h.done hN rfl hS
 ·exact h.last2 hN rfl hS
 ·exact h.last3 hN rfl hS
 ·exact h.mX hN rfl hS
end
end gW
end Go.Proofs.YtlncengggmgdgaaGreat.par
namespace Go.Proofs.YtlncengggmgdgaaGreat.par
open Go Go.Conc
open Go.ConcN (CT Apart Deaf_absent PermW RelBy sumTo sumTo_congr sumTo_upd le_sumTo sumTo_le)
open Go.ConcR (stA smA WgAt KK rd wr)
namespace gW
variable {A : gW} {Anch aU : (Nat → Prop) → Nat → Goroutine → World → Prop}
section
variable {gs : Array Goroutine} {w w' : World} {t : Trace} {x : Nat → GR Ft} {g : Goroutine} {m : Machine} {sl : Option (Nat × Nat)} {s : Ft} {K : Machine → Trace → Prop}
theorem EP{s':Ft}(hm:s'.main){O:Nat->Prop}{d:Nat}{g:Goroutine}{w:World}(h:A.LM (A.stop Anch aU 0 s') O d g w):∃rk,(A.iI Anch aU).Sits 0 ⟨.at s',rk,O,d⟩ g w:=by
 obtain⟨r,hr⟩:=h.BO
 refine⟨r,?_⟩
 show Gj A.P (0==0) A.Env (A.gu 0 s') (A.stop Anch aU 0 s') r O d g w
 cases s'<;>first|exact hr|exact hm.elim
theorem qL.up0{N:Nat}{se:Nat->Seat Ft}{t':Trace}(h:A.qL N se w t){s s':Ft}{sx:Seat Ft}(h0:se 0=.at s)(hsx:sx=.at s'\/(sx=.blk s'/\s'=.w3))(hm:s'.main)(hl:N+s'.left=A.N0+4)(hB:w'.heap[A.wB]? =w.heap[A.wB]?)
  (hmode:∃st' sm',WgAt A.tW A.Wg w' st' sm'/\A.Md N (bU se 0 sx) s' st' sm') (hacq:s'=.fin->Acq A.N0 A.Wg N t') (htr:TR A.N0 A.Wg A.S0 (rel se) N t'):A.qL N (bU se 0 sx) w' t':=by
 obtain⟨st',sm',g7,g8⟩:=hmode
 obtain⟨c,hc1,hc2⟩:=h.sums
 have hn:=h.n0
 have hlo:=h.lo
 have hne:∀k,A.N0<=k->bU se 0 sx k=se k:=λk hk=>aO _ _ (by omega)
 refine⟨h.n0,h.lo,⟨s',st',sm',by rw[aQ];exact hsx,hm,hl,g7,g8,hacq⟩,λk k1 kN=>by rw[aO _ _ (by omega)];exact h.old k k1 kN,λk k1 kN=>by rw[hne k k1];exact h.work k k1 kN,⟨c,by unfold gW.WB at hc1⊢;rw[hB];exact hc1,λk k1 kN=> ?_⟩,htr.mono λk k1 kN hr r e=>hr r (by rw[hne k k1];exact e),λk hk=>by rw[hne k (by omega)];exact h.up k hk⟩
 obtain⟨a1,a2,a3⟩:=hc2 k k1 kN
 exact⟨a1,λr e=>a2 r (by rw[<-hne k k1];exact e),λhr=>a3 λr e=>hr r (by rw[hne k k1];exact e)⟩
theorem At.first(h:At A Anch aU K gs w sl m t x 0 g s){g':Goroutine}{es:Array Event}(hgo:stepG A.P true g w=.go g' w' es)(s':Ft)(hm:s'.main)(hl:s'.left=s.left)(hy:A.LM (A.stop Anch aU 0 s') (x 0).own (deafBehind (x 0).deaf es) g' w')(hw:A.Turns w w')(hB:w'.heap[A.wB]? =w.heap[A.wB]?)
  (hev:∀e∈es,Event.mute e=true\/EvS A.Sh True e) (hnr:∀e∈es,e.loc≠ .mark (.release (stA A.Wg))) (hmode:∃st' sm',WgAt A.tW A.Wg w' st' sm'/\A.Md gs.size (bU (λk=>(x k).seat) 0 (.at s')) s' st' sm') (hacq:s'=.fin->∀fn pos,Acq A.N0 A.Wg gs.size (t++MemOp.ofEvents 0 fn pos es))
  (hwt:∀v,(gs.size=A.N0+4->v=A.cnt gs.size λk=>(x k).seat)->s'.weigh v A.bnd<s.weigh v A.bnd):K m t:=by
 have hn:=h.n
 obtain⟨rk,hy⟩:=EP hm hy
 have hse:(λk=>(x k).seat) 0=.at s:=h.seat
 obtain⟨s1,st,sm,g1,g2,g3,g4,g5,g6⟩:=h.grp.mY
 have hs1:s1=s:=by rcases g1 with e|⟨e,_⟩<;>(have e':=h.seat;rw[show(x 0).seat=_ from e]at e';cases e'<;>rfl)
 subst hs1
 refine BU h.n K h.back h.p h.gi h.st h.ih hgo (.at s') rk hy hw (λe he=>(hev e he).imp id λh=> ?_) (λh=>by omega) (λ_=>rfl) (λfn pos=> ?_) (.inl (VK (λk=>(x k).seat) h.n (s:=s1) (by rw[h.seat];rfl) (.at s') rfl (hwt _ λe=> ?_)))
 ·rcases h with h|h|⟨_,h⟩
  ·exact .inl h
  ·exact .inr (.inl h)
  ·exact .inr (.inr ⟨rfl,h⟩)
 ·have hG:A.qL gs.size (bU (λk=>(x k).seat) 0 (.at s')) w' (t++MemOp.ofEvents 0 fn pos es):=h.grp.up0 hse (.inl rfl) hm (by omega) hB hmode (λe=>hacq e fn pos) (h.grp.tr.app 0 fn pos hnr (λh=>absurd rfl h) λ_ h=>by omega)
  split
  ·exact hG.EN
  ·exact hG
 ·unfold gW.cnt
  rw[e,show A.N0+4-A.N0=4 by omega]
theorem At.VN(h:At A Anch aU K gs w sl m t x 0 g s):∃st sm,s.main/\gs.size+s.left=A.N0+4/\WgAt A.tW A.Wg w st sm/\A.Md gs.size (λk=>(x k).seat) s st sm:=by
 obtain⟨s1,st,sm,g1,g2,g3,g4,g5,g6⟩:=h.grp.mY
 have hse:(λk=>(x k).seat) 0=.at s:=h.seat
 have hs1:s1=s:=by rcases g1 with e|⟨e,_⟩<;>(have e':=h.seat;rw[show(x 0).seat=_ from e]at e';cases e'<;>rfl)
 subst hs1
 exact⟨st,sm,g2,g3,g4,g5⟩
theorem At.BX(h:At A Anch aU K gs w sl m t x 0 g s)(ho:s.open):gs.size+s.left=A.N0+4/\WgAt A.tW A.Wg w (((A.cnt gs.size (λk=>(x k).seat)+s.pend:Nat):Int)*KK) 0/\(∀k,A.N0<=k->k<gs.size->Calm (x k).seat)/\∀vs,s=.w2 vs->A.cnt gs.size (λk=>(x k).seat)<=vs/\1<=vs:=by
 obtain⟨st,sm,_,g3,g4,g5⟩:=h.VN
 cases g5 with
 |opn _ _ hc hs=>exact⟨g3,g4,hc,hs⟩
 |reg=>exact ho.elim
 |last=>exact ho.elim
 |mX=>exact ho.elim
 |sema=>exact ho.elim
 |fin hf=>cases s<;>first|exact ho.elim|exact hf.elim
theorem VO(a b:Addr)(ha:a.block=A.Wg)(hb:b.block=A.Wg):∀e∈(#[rd a,wr b]:Array Event),EvS A.Sh True e:=λe he=>by
 simp[rd,wr]at he
 rcases he with rfl|rfl
 ·exact .inl ⟨_,_,rfl,.inr (.inl ha)⟩
 ·exact .inl ⟨_,_,rfl,.inr (.inl hb)⟩
theorem PG(a:Addr)(ha:a.block=A.Wg):∀e∈(#[rd a]:Array Event),EvS A.Sh True e:=λe he=>by
 simp[rd]at he
 subst he
 exact .inl ⟨_,_,rfl,.inr (.inl ha)⟩
theorem VP(a b c:Addr):∀e∈(#[rd a,wr b]:Array Event),e.loc≠ .mark (.release c):=λe he hh=>by
 simp[rd,wr]at he
 rcases he with rfl|rfl<;>cases hh
theorem PI(a c:Addr):∀e∈(#[rd a]:Array Event),e.loc≠ .mark (.release c):=λe he hh=>by
 simp[rd]at he
 subst he
 cases hh
theorem JB(hn:1<=A.N0)(se:Nat->Seat Ft)(N:Nat)(sx:Seat Ft):A.cnt N (bU se 0 sx)=A.cnt N se:=VJ hn se sx
theorem At.add1(h:At A Anch aU K gs w sl m t x 0 g s){r:Nat}(hs:s=.a1 r)(hS:A.A1 (A.YI Anch aU r) (x 0).own (x 0).deaf g w):K m t:=by
 subst hs
 obtain⟨hd,_,hS⟩:=hS
 obtain⟨g3,g4,kK,_⟩:=h.BX trivial
 have hc4:=cnt_le (A:=A) (λk=>(x k).seat) h.grp.n4
 obtain⟨g',hgo,hO⟩:=hS (A.cnt gs.size λk=>(x k).seat) (by omega) g4
 have hW:=g4.setSt ((((A.cnt gs.size λk=>(x k).seat):Nat):Int)+1)
 have hW:=g4.setSt (((((A.cnt gs.size λk=>(x k).seat):Nat):Int)+1)*KK)
 refine h.first hgo (.go r) trivial rfl (by rw[hd,oK];exact hO) (Turns.set (.inl rfl) (h.nO hW (h.sets _ rfl _) (gy h.p.live.2 (.inl rfl) _))) (h.sets _ rfl _) (λe he=>.inr (VO _ _ rfl rfl e he)) (VP _ _ _) ⟨_,_,hW,?_⟩ (λe=>by cases e) λv _=>by
  simp only[Ft.weigh]
  have:(A.bnd+100)*(2*r+2)=(A.bnd+100)*(2*r+1)+(A.bnd+100):=by rw[show 2*r+2=(2*r+1)+1 by omega,Nat.mul_succ]
  omega
 have e1:((((A.cnt gs.size λk=>(x k).seat):Nat):Int)+1)=((A.cnt gs.size (bU (λk=>(x k).seat) 0 (.at (.go r)))+(Ft.go r).pend:Nat):Int):=by rw[JB h.n];simp[Ft.pend]
 rw[e1]
 exact .opn trivial (aQ _ _ _) (λk k1 kN=>by rw[aO _ _ (by have:=h.n;omega)];exact kK k k1 kN) λvs e=>by cases e
theorem At.ae3(h:At A Anch aU K gs w sl m t x 0 g s)(hs:s=.w1)(hS:A.W1 Anch aU (x 0).own (x 0).deaf g w):K m t:=by
 subst hs
 obtain⟨hd,_,hS⟩:=hS
 obtain⟨g3,g4,kK,_⟩:=h.BX trivial
 have hc4:=cnt_le (A:=A) (λk=>(x k).seat) h.grp.n4
 have g4':WgAt A.tW A.Wg w (((A.cnt gs.size (λk=>(x k).seat):Nat):Int)*KK) 0:=g4
 obtain⟨g',hgo,h0,h1⟩:=hS (A.cnt gs.size λk=>(x k).seat) (by omega) g4'
 rcases Nat.eq_zero_or_pos (A.cnt gs.size λk=>(x k).seat)with hz|hp
 ·refine h.first hgo .acq trivial rfl (by rw[hd,wM];exact h0 hz) (Turns.id h.p.live) rfl (λe he=>.inr (PG _ rfl e he)) (PI _ _) ⟨_,_,g4',?_⟩ (λe=>by cases e) λv _=>by simp only[Ft.weigh];omega
  rw[hz]
  refine(show A.Md _ _ .acq (((0:Nat):Int)*KK) 0 from by
   rw[show((0:Nat):Int)*KK=0 by simp]
   refine .fin trivial (aQ _ _ _) λk k1 kN=> ?_
   rw[aO _ _ (by have:=h.n;omega)]
   have:=uO (A:=A) (λk=>(x k).seat) k1 kN
   rcases kK k k1 kN with e|⟨r,e⟩|e
   ·exact e
   ·rw[e]at this;simp[Seat.tag,counted]at this;omega
   ·rw[e]at this;simp[Seat.tag,counted]at this;omega)
 ·refine h.first hgo (.w2 (A.cnt gs.size λk=>(x k).seat)) trivial rfl (by rw[hd,wM];exact h1 (by omega)) (Turns.id h.p.live) rfl (λe he=>.inr (PG _ rfl e he)) (PI _ _) ⟨_,_,g4',?_⟩ (λe=>by cases e) λv hv=>by
   simp only[Ft.weigh]
   have:=hv g3
   omega
  have e1:(A.cnt gs.size λk=>(x k).seat)=A.cnt gs.size (bU (λk=>(x k).seat) 0 (.at (.w2 (A.cnt gs.size λk=>(x k).seat))))+(Ft.w2 (A.cnt gs.size λk=>(x k).seat)).pend:=by rw[JB h.n];rfl
  have:=Md.opn (A:=A) (N:=gs.size) (se:=bU (λk=>(x k).seat) 0 (.at (.w2 (A.cnt gs.size λk=>(x k).seat)))) (s:=.w2 (A.cnt gs.size λk=>(x k).seat)) trivial (aQ _ _ _) (λk k1 kN=>by rw[aO _ _ (by have:=h.n;omega)];exact kK k k1 kN) λvs e=>by cases e;rw[JB h.n];exact⟨Nat.le_refl _,hp⟩
  rw[<-e1]at this
  exact this
theorem At.ae4(h:At A Anch aU K gs w sl m t x 0 g s){vs:Nat}(hs:s=.w2 vs)(hAn:∀O d g w,Anch O d g w->A.LM (A.W1 Anch aU) O d g w)(hS:A.W2 Anch aU vs (x 0).own (x 0).deaf g w):K m t:=by
 subst hs
 obtain⟨hd,_,hS⟩:=hS
 obtain⟨g3,g4,kK,hvs⟩:=h.BX trivial
 obtain⟨hle,h1⟩:=hvs vs rfl
 have hc4:=cnt_le (A:=A) (λk=>(x k).seat) h.grp.n4
 have g4':WgAt A.tW A.Wg w (((A.cnt gs.size (λk=>(x k).seat):Nat):Int)*KK) 0:=g4
 obtain⟨hhit,hmiss⟩:=hS (A.cnt gs.size λk=>(x k).seat) (by omega) g4'
 by_cases e:(A.cnt gs.size λk=>(x k).seat)=vs
 ·obtain⟨g',hgo,hO⟩:=hhit e
  have hW:=g4'.setSt ((((A.cnt gs.size λk=>(x k).seat):Nat):Int)*KK+1)
  refine h.first hgo .w3 trivial rfl (by rw[hd,oK];exact hO) (Turns.set (.inl rfl) (h.nO hW (h.sets _ rfl _) (gy h.p.live.2 (.inl rfl) _))) (h.sets _ rfl _) (λe he=>.inr (VO _ _ rfl rfl e he)) (VP _ _ _) ⟨_,_,hW,?_⟩ (λe=>by cases e) λv _=>by simp only[Ft.weigh];omega
  have:=Md.reg (A:=A) (N:=gs.size) (se:=bU (λk=>(x k).seat) 0 (.at .w3)) (λk k1 kN=>by rw[aO _ _ (by have:=h.n;omega)];exact kK k k1 kN) (by rw[JB h.n];omega)
  rw[JB h.n]at this
  exact this
 ·obtain⟨g',hgo,hO⟩:=hmiss e
  refine h.first hgo .w1 trivial rfl (by rw[hd,wM];exact hO.bind (dO.refl Aj) hAn) (Turns.id h.p.live) rfl (λe he=>.inr (PG _ rfl e he)) (PI _ _) ⟨_,_,g4',?_⟩ (λe=>by cases e) λv hv=>by
   simp only[Ft.weigh]
   have:=hv g3
   omega
  have:=Md.opn (A:=A) (N:=gs.size) (se:=bU (λk=>(x k).seat) 0 (.at .w1)) (s:=.w1) trivial (aQ _ _ _) (λk k1 kN=>by rw[aO _ _ (by have:=h.n;omega)];exact kK k k1 kN) λvs e=>by cases e
  rw[JB h.n]at this
  exact this
end
end gW
end Go.Proofs.YtlncengggmgdgaaGreat.par
namespace Go.Proofs.YtlncengggmgdgaaGreat.par
open Go Go.Conc
open Go.ConcN (CT Apart Deaf_absent PermW RelBy sumTo sumTo_congr sumTo_upd le_sumTo sumTo_le)
open Go.ConcR (stA smA WgAt KK rd wr)
namespace gW
variable {A : gW} {Anch aU : (Nat → Prop) → Nat → Goroutine → World → Prop}
section
variable {gs : Array Goroutine} {w w' : World} {t : Trace} {x : Nat → GR Ft} {g : Goroutine} {m : Machine} {sl : Option (Nat × Nat)} {s : Ft} {K : Machine → Trace → Prop}
theorem At.ae5(h:At A Anch aU K gs w sl m t x 0 g s)(hs:s=.w3)(hS:∀w₁,A.Env (x 0).own w w₁->A.W3 aU (x 0).own (x 0).deaf g w₁):K m t:=by
 subst hs
 have hse:(λk=>(x k).seat) 0=.at .w3:=h.seat
 have hn:=h.n
 obtain⟨hd,hrun,hoff,hb,htk⟩:=hS w (dO.refl Aj _ _)
 obtain⟨st,sm,g2,g3,g4,g5⟩:=h.VN
 have blk:sm=0->(A.Md gs.size (bU (λk=>(x k).seat) 0 (.blk .w3)) .w3 st sm)->K m t:=λhz hmd=>by
  subst hz
  have hgo:=hb ⟨st,g4⟩
  have hm:(A.iI Anch aU).ug g {g with status:=.blocked}=false:=by
   unfold dY.ug
   cases mayWake (A.iI Anch aU).P g<;>rfl
  refine BU h.n K h.back h.p h.gi h.st h.ih hgo (.blk .w3) Rk.nil ?_ (Turns.id h.p.live) (λe he=>by simp at he) (λh=>by omega) (λh=>by rw[hm]at h;cases h) (λfn pos=> ?_) (.inr ⟨rfl,hm,by rw[h.seat];rfl,by rw[h.seat];exact Nat.zero_lt_one⟩)
  ·exact⟨g,rfl,hrun,hoff,λw₁ h₁=>hS w₁ h₁⟩
  ·rw[hm,if_neg (by simp)]
   exact h.grp.up0 hse (.inr ⟨rfl,rfl⟩) trivial g3 rfl ⟨_,_,g4,hmd⟩ (λe=>by cases e) (h.grp.tr.app 0 fn pos (λe he=>by simp at he) (λh=>absurd rfl h) λ_ h=>by omega)
 have hne:∀k,A.N0<=k->bU (λk=>(x k).seat) 0 (.blk .w3) k=(x k).seat:=λk hk=>aO _ _ (by omega)
 have YJ:=g5
 cases g5 with
 |opn ho=>exact ho.elim
 |reg hc h1=>
  refine blk rfl ?_
  have:=Md.reg (A:=A) (N:=gs.size) (se:=bU (λk=>(x k).seat) 0 (.blk .w3)) (λk k1 kN=>by rw[hne k k1];exact hc k k1 kN) (by rw[JB h.n];exact h1)
  rw[JB h.n]at this
  exact this
 |last L hL hN hs ho=>exact blk rfl (.last L hL hN (by rw[hne L hL];exact hs) λk k1 kN hk=>by rw[hne k k1];exact ho k k1 kN hk)
 |mX L hL hN hs ho=>exact blk rfl (.mX L hL hN (by rw[hne L hL];exact hs) λk k1 kN hk=>by rw[hne k k1];exact ho k k1 kN hk)
 |sema h0 ho=>
  obtain⟨g',hgo,hO⟩:=htk g4
  have hW:=g4.setSm 0
  refine h.first hgo .w4 trivial rfl (by rw[hd,JA];exact hO) (Turns.set (.inl rfl) (h.nO hW (h.sets _ rfl _) (gy h.p.live.2 (.inl rfl) _))) (h.sets _ rfl _) (λe he=> ?_) (λe he hh=> ?_) ⟨_,_,hW,.fin trivial (aQ _ _ _) λk k1 kN=>by rw[aO _ _ (by omega)];exact ho k k1 kN⟩ (λe=>by cases e) λv _=>by simp only[Ft.weigh];omega
  ·simp[semEvents]at he
   rcases he with rfl|rfl|rfl|rfl
   ·exact .inl rfl
   ·exact .inr (.inl ⟨_,_,rfl,.inr (.inl rfl)⟩)
   ·exact .inr (.inl ⟨_,_,rfl,.inr (.inl rfl)⟩)
   ·exact .inl rfl
  ·simp[semEvents]at he
   rcases he with rfl|rfl|rfl|rfl<;>cases hh
 |fin hf=>exact hf.elim
theorem At.VQ(h:At A Anch aU K gs w sl m t x 0 g s)(ho:s.over):gs.size+s.left=A.N0+4/\WgAt A.tW A.Wg w 0 0/\∀k,A.N0<=k->k<gs.size->(x k).seat=.quit:=by
 obtain⟨st,sm,_,g3,g4,g5⟩:=h.VN
 cases g5 with
 |opn hf=>cases s<;>first|exact ho.elim|exact hf.elim
 |reg=>exact ho.elim
 |last=>exact ho.elim
 |mX=>exact ho.elim
 |sema=>exact ho.elim
 |fin hf h0 hq=>exact⟨g3,g4,hq⟩
theorem At.ae6(h:At A Anch aU K gs w sl m t x 0 g s)(hs:s=.w4)(hS:A.W4 aU (x 0).own (x 0).deaf g w):K m t:=by
 subst hs
 obtain⟨hd,_,hS⟩:=hS
 obtain⟨g3,g4,hq⟩:=h.VQ trivial
 obtain⟨g',hgo,hO⟩:=hS g4
 exact h.first hgo .acq trivial rfl (by rw[hd,wM];exact hO) (Turns.id h.p.live) rfl (λe he=>.inr (PG _ rfl e he)) (PI _ _) ⟨_,_,g4,.fin trivial (aQ _ _ _) λk k1 kN=>by rw[aO _ _ (by have:=h.n;omega)];exact hq k k1 kN⟩ (λe=>by cases e) λv _=>by simp only[Ft.weigh];omega
theorem At.acquire(h:At A Anch aU K gs w sl m t x 0 g s)(hs:s=.acq)(hF:∀O d g w,aU O d g w->g.status=.running)(hS:A.Ac aU (x 0).own (x 0).deaf g w):K m t:=by
 subst hs
 obtain⟨hd,_,g',hgo,hO⟩:=hS
 obtain⟨g3,g4,hq⟩:=h.VQ trivial
 have hd':Deaf t 0=0:=by rw[h.deaf,hd]
 refine h.first hgo .fin trivial rfl (by rw[hd,PE 0 _ ⟨by simp,by simp⟩];exact hO.weaken λO d g w hh=>⟨hF _ _ _ _ hh,hh⟩) (Turns.id h.p.live) rfl (λe he=>.inr ?_) (λe he hh=> ?_) ⟨_,_,g4,.fin trivial (aQ _ _ _) λk k1 kN=>by rw[aO _ _ (by have:=h.n;omega)];exact hq k k1 kN⟩ (λ_ fn pos=>Acq.new h.grp.tr h.n (λk k1 kN r e=>by rw[show(λk=>(x k).seat) k=_ from hq k k1 kN]at e;cases e) hd' fn pos) λv _=>by simp only[Ft.weigh];omega
 ·simp[Go.ConcR.mk]at he
  subst he
  exact .inr (.inl (.inl ⟨_,rfl,.inr (.inl rfl)⟩))
 ·simp[Go.ConcR.mk]at he
  subst he
  cases hh
theorem cnt4(f:Nat->Seat Ft):(sumTo 4 λi=>counted (f (A.N0+i)).tag)<=4:=sumTo_le (c:=1) λj _=>by
 cases(f (A.N0+j)).tag with
 |none=>simp[counted]
 |some s=>cases s<;>simp[counted]
theorem At.spawn(h:At A Anch aU K gs w sl m t x 0 g s){r:Nat}(hs:s=.go r){k:Nat}{Next:(Nat->Prop)->Nat->Goroutine->World->Prop}{s':Ft}(hm:s'.main)(ho:s'.open)(hp0:s'.pend=0)(hnv:∀vs,s'≠ .w2 vs)(hl:s'.left+1=r+1)(hw:∀v,v<=4->s'.weigh v A.bnd+(A.bnd+10)<=(Ft.go r).weigh 0 A.bnd)(hk:A.N0+k=gs.size)(hN:∀O d g w,Next O d g w->A.stop Anch aU 0 s' O d g w)(hS:A.GoS k Next (x 0).own (x 0).deaf g w):K m t:=by
 subst hs
 have hn:=h.n
 obtain⟨hd,_,g',child,Om,Oc,hgo,h1,h2,h3,hO,hO2⟩:=hS
 obtain⟨g3,g4,kK,_⟩:=h.BX trivial
 have g3':gs.size+(r+1)=A.N0+4:=g3
 obtain⟨rk,hy⟩:=EP hm (hO2.weaken hN)
 obtain⟨rc,hc⟩:=hO.BO
 have hi:gs[0]? =some g:=h.gi
 have hpos:0<gs.size:=h.lt
 have hrun:=runT_crowd_spawn (P:=A.P) (sl:=sl) (i:=0) hi (show stepG A.P (0==0) g w=_ from hgo)
 have hlo:=h.grp.lo
 have hst:(A.iI Anch aU).Sits gs.size ⟨.at (.own A.bnd),rc,Oc,0⟩ child w:=by
  show Gj A.P (gs.size==0) A.Env (A.gu gs.size (.own A.bnd)) (A.stop Anch aU gs.size (.own A.bnd)) rc Oc 0 child w
  rw[show(gs.size==0)=false from beq_eq_false_iff_ne.2 (by omega)]
  show Gj A.P false A.Env (Gn A.Rd A.Sh False) (A.Own (gs.size-A.N0) A.bnd) rc Oc 0 child w
  rw[show gs.size-A.N0=k by omega]
  exact hc
 have oJ:(λk=>(upd (upd x 0 ⟨.at s',rk,Om,0⟩) gs.size ⟨.at (.own A.bnd),rc,Oc,0⟩ k).seat)=bU (bU (λk=>(x k).seat) 0 (.at s')) gs.size (.at (.own A.bnd)):=by
  funext j
  by_cases hj:j=gs.size
  ·rw[hj,upd_same,aQ]
  ·rw[upd_ne _ _ hj,aO _ _ hj]
   by_cases hj0:j=0
   ·rw[hj0,upd_same,aQ]
   ·rw[upd_ne _ _ hj0,aO _ _ hj0]
 have hne:∀j,A.N0<=j->j≠gs.size->bU (bU (λk=>(x k).seat) 0 (.at s')) gs.size (.at (.own A.bnd)) j=(x j).seat:=λj hj hjn=>by rw[aO _ _ hjn,aO _ _ (by omega)]
 have hz:bU (bU (λk=>(x k).seat) 0 (.at s')) gs.size (.at (.own A.bnd)) 0=.at s':=by rw[aO _ _ (by omega),aQ]
 have hxN:(x gs.size).seat=.quit:=h.grp.up _ (Nat.le_refl _)
 have hcnt:A.cnt (gs.size+1) (bU (bU (λk=>(x k).seat) 0 (.at s')) gs.size (.at (.own A.bnd)))=A.cnt gs.size (λk=>(x k).seat)+1:=by
  unfold gW.cnt
  rw[show gs.size+1-A.N0=(gs.size-A.N0)+1 by omega]
  simp only[sumTo]
  rw[show A.N0+(gs.size-A.N0)=gs.size by omega,aQ]
  have:(sumTo (gs.size-A.N0) λi=>counted (bU (bU (λk=>(x k).seat) 0 (.at s')) gs.size (.at (.own A.bnd)) (A.N0+i)).tag)=sumTo (gs.size-A.N0) λi=>counted (x (A.N0+i)).seat.tag:=sumTo_congr λi hi=>by rw[hne _ (by omega) (by omega)]
  rw[this]
  rfl
 have hops:((MemOp.ofEvents 0 g.frame.fn g.frame.place #[]).push {g:=0,fn:=g.frame.fn,pos:=g.frame.place,act:=.go gs.size}).push {g:=gs.size,fn:=child.frame.fn,pos:=g.frame.place,act:=.start}= #[({g:=0,fn:=g.frame.fn,pos:=g.frame.place,act:=.go gs.size}:MemOp),{g:=gs.size,fn:=child.frame.fn,pos:=g.frame.place,act:=.start}]:=rfl
 have hp':=h.p.fork (Gq hn) hi (g':=g') (child:=child) ⟨.at s',rk,Om,0⟩ ⟨.at (.own A.bnd),rc,Oc,0⟩ hy hst h1 h2 h3 hd rfl rfl (by show A.N0<=gs.size;omega) (by show gs.size<=A.N0+3;omega) _ ⟨_,_,hops,⟨rfl,rfl⟩,⟨rfl,rfl⟩⟩ (by
  show A.qL (gs.size+1) (λk=>(upd (upd x 0 ⟨.at s',rk,Om,0⟩) gs.size ⟨.at (.own A.bnd),rc,Oc,0⟩ k).seat) w _
  rw[oJ]
  obtain⟨c,hc1,hc2⟩:=h.grp.sums
  refine⟨hn,by omega,⟨s',_,_,.inl hz,hm,by omega,g4,?_,λe=>by subst e;exact ho.elim⟩,λj j1 jN=> ?_,λj j1 jN=> ?_,⟨Go.ConcN.upd c gs.size 0,?_,λj j1 jN=> ?_⟩,?_,λj hj=> ?_⟩
  ·have e1:A.cnt gs.size (λk=>(x k).seat)+(Ft.go r).pend=A.cnt (gs.size+1) (bU (bU (λk=>(x k).seat) 0 (.at s')) gs.size (.at (.own A.bnd)))+s'.pend:=by rw[hcnt,hp0];rfl
   rw[e1]
   refine .opn ho hz (λj j1 jN=> ?_) λvs e=>absurd e (hnv vs)
   by_cases hj:j=gs.size
   ·rw[hj,aQ];exact .inr (.inl ⟨_,rfl⟩)
   ·rw[hne j j1 hj];exact kK j j1 (by omega)
  ·rw[aO _ _ (by omega),aO _ _ (by omega)];exact h.grp.old j j1 jN
  ·by_cases hj:j=gs.size
   ·rw[hj,aQ];exact .inl (.inr (.inl ⟨_,rfl⟩))
   ·rw[hne j j1 hj];exact .inl (kK j j1 (by omega))
  ·rw[show gs.size+1-A.N0=(gs.size-A.N0)+1 by omega]
   simp only[sumTo]
   rw[show A.N0+(gs.size-A.N0)=gs.size by omega,Go.ConcN.upd_same,Nat.add_zero]
   rw[sumTo_congr (g:=λi=>c (A.N0+i)) λi hi=>by rw[Go.ConcN.upd_ne _ _ (by omega)]]
   exact hc1
  ·by_cases hj:j=gs.size
   ·subst hj
    rw[Go.ConcN.upd_same,aQ]
    exact⟨Nat.zero_le _,λr e=>(by cases e;omega),λhr=>(hr A.bnd (aQ _ _ _)).elim⟩
   ·rw[Go.ConcN.upd_ne _ _ hj,hne j j1 hj]
    obtain⟨a1,a2,a3⟩:=hc2 j j1 (by omega)
    exact⟨a1,a2,λhr=>a3 λr e=>hr r (by rw[hne j j1 hj];exact e)⟩
  ·exact(h.grp.tr.mono (rl':=rel (bU (bU (λk=>(x k).seat) 0 (.at s')) gs.size (.at (.own A.bnd)))) λj j1 jN hr r e=>hr r (by rw[hne j j1 (by omega)];exact e)).fork ⟨rfl,rfl⟩ ⟨rfl,rfl⟩ hlo λhr=>hr A.bnd (aQ _ _ _)
  ·rw[aO _ _ (by omega),aO _ _ (by omega)];exact h.grp.up j (by omega))
 refine h.back _ _ _ _ (h.st.trans hrun) (h.ih _ _ _ _ _ hp' ?_)
 unfold dY.mu
 refine .num ?_
 show A.phi (λk=>(upd (upd x 0 ⟨.at s',rk,Om,0⟩) gs.size ⟨.at (.own A.bnd),rc,Oc,0⟩ k).seat.tag)<A.phi λk=>(x k).seat.tag
 have e3:(λk=>(upd (upd x 0 ⟨.at s',rk,Om,0⟩) gs.size ⟨.at (.own A.bnd),rc,Oc,0⟩ k).seat.tag)=λk=>(bU (bU (λk=>(x k).seat) 0 (.at s')) gs.size (.at (.own A.bnd)) k).tag:=by
  rw[<-oJ]
 rw[e3,yx (A:=A) _ (s:=s') (by rw[hz];rfl),yx (A:=A) (λk=>(x k).seat) (s:=.go r) (by rw[h.seat];rfl)]
 have a2:=Ak (λx=>wt x.tag) (bU (λk=>(x k).seat) 0 (.at s')) (n:=4) hlo (show gs.size<A.N0+4 by omega) (.at (.own A.bnd))
 have a3:(sumTo 4 λj=>wt (bU (λk=>(x k).seat) 0 (.at s') (A.N0+j)).tag)=sumTo 4 λj=>wt (x (A.N0+j)).seat.tag:=sumTo_congr λi _=>by rw[aO _ _ (by omega)]
 have a4:wt (bU (λk=>(x k).seat) 0 (.at s') gs.size).tag=1:=by rw[aO _ _ (by omega),hxN];rfl
 have a5:wt (Seat.tag (.at (.own A.bnd):Seat Ft))=10+A.bnd:=rfl
 have a6:=hw (sumTo 4 λi=>counted (bU (bU (λk=>(x k).seat) 0 (.at s')) gs.size (.at (.own A.bnd)) (A.N0+i)).tag) (cnt4 _)
 have a7:(Ft.go r).weigh (sumTo 4 λi=>counted (x (A.N0+i)).seat.tag) A.bnd=(Ft.go r).weigh 0 A.bnd:=rfl
 rw[a7]
 omega
end
end gW
end Go.Proofs.YtlncengggmgdgaaGreat.par
namespace Go.Proofs.YtlncengggmgdgaaGreat.par
open Go Go.Conc
open Go.ConcN (CT Apart Deaf_absent PermW RelBy sumTo sumTo_congr sumTo_upd le_sumTo sumTo_le)
open Go.ConcR (stA smA WgAt KK rd wr)
namespace gW
variable {A : gW} {Anch aU : (Nat → Prop) → Nat → Goroutine → World → Prop}
theorem JC{N:Nat}{t:Trace}(hA:Acq A.N0 A.Wg N t)(hn:NoRelease (stA A.Wg) t){k:Nat}(k1:A.N0<=k)(kN:k<N):∃r q,Rl A.Wg t k r/\t.g? q=some 0/\∀i,t.g? i=some k->i<=r->HappensBefore t i q:=by
 obtain⟨q,h1,h2,h3,h4⟩:=hA
 obtain⟨r,hr,hrq⟩:=h4 k k1 kN
 have edge:HappensBefore t r q:=.single (.inr ⟨.marked hrq (.inr hr.1.act) h1 (λk _ _=>hn k),hr.1.heard,h3⟩)
 refine⟨r,q,hr,h2,λi hg hi=> ?_⟩
 rcases Nat.lt_or_ge i r with hlt|hge
 ·exact .trans (.single (.inl ⟨hlt,k,hg,hr.1.g⟩)) edge
 ·obtain rfl:i=r:=by omega
  exact edge
theorem BZ{f:Nat->Nat}:∀{n:Nat},(∀i,i<n->f i=0)->sumTo n f=0
 |0,_=>rfl
 |n+1,h=>by
  have h1:=BZ (f:=f) (n:=n) λi hi=>h i (by omega)
  have h2:=h n (Nat.lt_succ_self n)
  simp only[sumTo]
  omega
theorem RP(hn:1<=A.N0)(ne:A.Wg≠A.wB)(ai0:4*A.bnd<9223372036854775807)(K:Machine->Trace->Prop)(hback:∀m t m' ops,stepT A.P m=(.next m',ops)->K m' (t++ops)->K m t)(hAn:∀O d g w,Anch O d g w->A.LM (A.W1 Anch aU) O d g w)(hF:∀O d g w,aU O d g w->d=0/\g.status=.running)
  (hfin:∀gs w sl t q a O,pU A.P (λb=>A.S0 b\/b=A.Wg) gs w t (λ_=>False) q->gs.size=A.N0+4->gs[0]? =some a->(∀b,O b->b<w.heap.size/\¬A.Sh b)->(∃v:Int,A.WB v w/\(v=0↔∀k,k<4->A.gd k))->A.Live w->(∀w₁,A.Env O w w₁->aU O 0 a w₁)->K (crowd gs w sl) t)
  {gs:Array Goroutine} {w:World} {sl:Option (Nat×Nat)} {t:Trace} {O:Nat->Prop} {q:Nat->Nat} {a:Goroutine} (hc:pU A.P A.S0 gs w t O q) (hN:gs.size=A.N0) (ha:gs[0]? =some a) (hW:WgAt A.tW A.Wg w 0 0) (hB:A.WB 0 w) (hl:A.Live w) (hu:Zl (λb=>b=A.Wg\/b=A.wB) t) (hnr:NoRelease (stA A.Wg) t)
  (hB1:A.B1<=w.heap.size) {Om:Nat->Prop} (hOm:∀b,Om b->A.B1<=b/\b<w.heap.size/\¬A.Sh b) (hO:A.LM (A.A1 (A.YI Anch aU 3)) Om 0 a w):K (crowd gs w sl) t:=by
 obtain⟨r,hr⟩:=hO.BO
 have ai2:∀b,A.Sh b->b<w.heap.size:=λb hb=>by
  rcases hb with h|rfl|rfl
  ·exact hc.ge.zY b h
  ·exact(Array.getElem?_eq_some_iff.1 (show w.heap[A.Wg]? =_ from hW)).1
  ·exact(Array.getElem?_eq_some_iff.1 (show w.heap[A.wB]? =_ from hB)).1
 let T:=A.iI Anch aU
 let x:Nat->GR Ft:=λk=>if k=0 then⟨.at (.a1 3),r,Om,0⟩else⟨.quit,Rk.nat (q k),jk,Deaf t k⟩
 have x0:∀k,k≠0->x k=⟨.quit,Rk.nat (q k),jk,Deaf t k⟩:=λk hk=>by simp[x,hk]
 have hp:T.Parts gs w t x:=by
  refine⟨λi g hi=> ?_,⟨λk b hb=> ?_,λk k' b h1 h2=> ?_,λk b hb=> ?_,λk b hb=> ?_,ai2,λb hb=>Nat.lt_of_lt_of_le hb.1 hB1,λb hb hs=> ?_⟩,⟨⟨?_,λk k1 kj l hl=> ?_,λk k1 kj l hl=> ?_,λl hs hl=> ?_,λl hs hl=> ?_,hc.ti.ct.nr,hc.ti.ct.gs⟩,hc.ti.seen⟩,λk hk=> ?_,hc.pos,λk k1 hq=> ?_,?_,?_,hl,λk b hb=> ?_⟩
  ·by_cases h0:i=0
   ·subst h0
    rw[ha]at hi
    obtain rfl:=Option.some.inj hi
    exact hr
   ·show T.Sits i (x i) g w
    rw[x0 i h0]
    exact⟨h0,q i,rfl,hc.old i g h0 hi⟩
  ·by_cases h0:k=0
   ·subst h0;exact(hOm b hb).2.1
   ·rw[x0 k h0]at hb;exact hb.elim
  ·by_cases h0:k=0
   ·by_cases h0':k'=0
    ·omega
    ·rw[x0 k' h0']at h2;exact h2.elim
   ·rw[x0 k h0]at h1;exact h1.elim
  ·by_cases h0:k=0
   ·subst h0;exact(hOm b hb).2.2
   ·rw[x0 k h0]at hb;exact hb.elim
  ·by_cases h0:k=0
   ·subst h0
    intro hh
    have h1:=(hOm b hb).1
    have h2:b<A.B1:=hh.1
    omega
   ·rw[x0 k h0]at hb;exact hb.elim
  ·rcases hs with h|h|h
   ·exact hb.2.2.2 h
   ·exact hb.2.1 h
   ·exact hb.2.2.1 h
  ·intro i op z ho hz hs
   have h1:inB A.S0 z.loc\/inB (λb=>b=A.Wg\/b=A.wB) z.loc:=inB.or hs
   rcases h1 with h1|h1
   ·exact hc.ti.ct.quiet i op z ho hz h1
   ·exact absurd h1 ((hu op (Array.mem_of_getElem? ho)).1 z hz)
  ·have e0:k≠0:=by omega
   rw[show(x k).own=jk by rw[x0 k e0]]at hl
   obtain⟨b,h,_⟩:=inB.two hl hl;exact h.elim
  ·have:A.N0<=k:=hl.1
   omega
  ·exact hc.ti.ct.free l (λh=>hs (h.imp λb hb=>.inl hb)) λk k1 kj=>⟨λh=>by obtain⟨b,h,_⟩:=inB.two h h;omega,λh=>by obtain⟨b,h,_⟩:=inB.two h.2 h.2;exact h.elim⟩
  ·exact hc.ti.ct.mine l (λh=>hs (h.imp λb hb=>.inl hb)) λk k1 kj h=>by obtain⟨b,h,_⟩:=inB.two h h;omega
  ·by_cases h0:k=0
   ·subst h0;exact hc.hear
   ·rw[x0 k h0]
  ·exact absurd (show(x k).seat=.quit by rw[x0 k (by omega)]) hq
  ·have hquit:∀k,k≠0->(x k).seat=.quit:=λk hk=>by rw[x0 k hk]
   show A.qL gs.size (λk=>(x k).seat) w t
   have hcn:A.cnt gs.size (λk=>(x k).seat)=0:=by
    unfold gW.cnt
    rw[hN,Nat.sub_self]
    rfl
   refine⟨hn,by omega,⟨.a1 3,0,0,.inl rfl,trivial,by rw[hN];rfl,hW,?_,λe=>by cases e⟩,λk k1 _=>hquit k (by omega),λk k1 kN=>by omega,⟨λ_=>0,?_,λk k1 kN=>by omega⟩,⟨λk k1 kN=>by omega,hnr,λi g hg h0 _ hcc=>hc.over i g hg h0 hcc,λi op z ho hz h0 _ hs=> ?_⟩,λk hk=>hquit k (by omega)⟩
   ·have:=Md.opn (A:=A) (N:=gs.size) (se:=λk=>(x k).seat) (s:=.a1 3) trivial rfl (λk k1 kN=>by omega) λvs e=>by cases e
    rw[hcn]at this
    simpa [Ft.pend]using this
   ·rw[hN,Nat.sub_self];exact hB
   ·exact hc.ti.ct.free z.loc hs (λk k1 kj=>⟨λh=>by obtain⟨b,h,_⟩:=inB.two h h;omega,λh=>by obtain⟨b,h,_⟩:=inB.two h.2 h.2;exact h.elim⟩) i z (by rw[touchAt_of ho];exact hz) rfl
  ·show gs.size<=A.N0+3+1
   omega
  ·by_cases h0:k=0
   ·exact⟨by have:=hc.pos;omega,.inl h0⟩
   ·rw[x0 k h0]at hb;exact hb.elim
 refine T.law (Gq hn) K hback (λs=>s=.fin) (λgs' w' sl' t' x' s hp' hs' hfs hS=> ?_) (λgs' w' sl' m t' x' i s g hp' hi hs' hnf hS hst ih=> ?_) x gs w sl t hp
 ·subst hfs
  have hG:A.qL gs'.size (λk=>(x' k).seat) w' t':=hp'.pm
  obtain⟨s1,st,sm,g1,g2,g3,g4,g5,g6⟩:=hG.mY
  have hs1:s1=.fin:=by rcases g1 with e|⟨e,_⟩<;>(have e':=hs';rw[show(x' 0).seat=_ from e]at e';cases e'<;>rfl)
  subst hs1
  have hacq:=g6 rfl
  have hsz:gs'.size=A.N0+4:=g3
  have hq:∀k,A.N0<=k->k<gs'.size->(x' k).seat=.quit:=by
   cases g5 with
   |opn ho=>exact ho.elim
   |fin _ _ ho=>exact ho
  have hqa:∀k,k≠0->k<gs'.size->(x' k).seat=.quit:=λk h0 hk=>by
   rcases Nat.lt_or_ge k A.N0 with h|h
   ·exact hG.old k (by omega) h
   ·exact hq k h hk
  have h0':0<gs'.size:=hp'.pos
  have hSt:=hS gs'[0] (Array.getElem?_eq_getElem h0')
  have hd:(x' 0).deaf=0:=(hF _ _ _ _ (hSt w' (dO.refl Aj _ _)).2).1
  have hfree:∀l,¬inB (λb=>A.S0 b\/b=A.Wg) l->Perm t' 0 l:=by
   intro l hs i z hz hzl
   obtain⟨op,hop,hox⟩:=touch_of hz
   rcases Nat.eq_zero_or_pos op.g with h0|h0
   ·have:=knows_own hop;rw[h0]at this;exact this
   ·rcases Nat.lt_or_ge op.g A.N0 with h|h
    ·exact hG.tr.knew i op z hop hox (by omega) h λhh=>hs (hzl▸hh.imp λb hb=>.inl hb)
    ·have hle:=hp'.ti.ct.gs i op hop
     obtain⟨r,qq,h1,h2,h3⟩:=JC hacq hG.tr.norel h (by omega)
     have hir:i<=r:=Nat.le_of_not_lt λhlt=>hs (by
      have:=h1.2 i op z hlt hop rfl hox
      rw[hzl]at this
      exact this.imp λb hb=>.inr hb)
     obtain⟨y,hy,hyg⟩:=Option.map_eq_some_iff.1 h2
     exact⟨qq,y,hy,hyg,.inr (h3 i (by simp[Trace.g?,hop]) hir)⟩
  refine hfin gs' w' sl' t' (λk=>if h:k≠0/\k<gs'.size then(show∃n,(x' k).rank=Rk.nat n/\QuitsD A.P n (x' k).deaf gs'[k]from by
    have h4:=hp'.sits k _ (Array.getElem?_eq_getElem h.2)
    unfold dY.Sits at h4
    rw[hqa k h.1 h.2]at h4
    exact h4.2).choose else 0) gs'[0] (x' 0).own ⟨λi g h0 hi=> ?_,?_,⟨⟨?_,λk k1 _ l hl=> ?_,λk _ _ l hl=> ?_,λl hs _=>hfree l hs,λl hs _=>PermW.of (hfree l hs),hp'.ti.ct.nr,hp'.ti.ct.gs⟩,hp'.ti.seen⟩,?_,hp'.pos,λi g hg h0 hcc=> ?_⟩ hsz (Array.getElem?_eq_getElem h0') (λb hb=>⟨hp'.ge.lt 0 b hb,hp'.ge.sh 0 b hb⟩) ?_ hp'.live (λw₁ hw=> ?_)
  ·have hil:i<gs'.size:=(Array.getElem?_eq_some_iff.1 hi).1
   obtain rfl:gs'[i]=g:=(Array.getElem?_eq_some_iff.1 hi).2
   rw[dif_pos ⟨h0,hil⟩,hp'.deaf i hil]
   exact Exists.choose_spec (p:=λn=>(x' i).rank=Rk.nat n/\QuitsD A.P n (x' i).deaf gs'[i]) _|>.2
  ·exact⟨λ_ _ h=>h.2.elim,λ_ _ _ h=>h.2.elim,λ_ _ h=>h.2.elim,λ_ _ h=>h.2.elim,λb hb=>hp'.ge.zY b (hb.elim .inl λh=>.inr (.inl h)),λ_ h=>h.elim,λ_ h=>h.elim⟩
  ·intro i op z ho hz hs
   exact hp'.ti.ct.quiet i op z ho hz (hs.imp λb hb=>hb.elim .inl λh=>.inr (.inl h))
  ·obtain⟨b,h,_⟩:=inB.two hl hl;exact h.2.elim
  ·obtain⟨b,h,_⟩:=inB.two hl.2 hl.2;exact h.elim
  ·rw[hp'.deaf 0 h0',hd]
  ·rcases Nat.lt_or_ge g A.N0 with h|h
   ·exact hG.tr.over i g hg h0 h hcc
   ·obtain⟨op,hop,hog⟩:=Option.map_eq_some_iff.1 hg
    have hle:=hp'.ti.ct.gs i op hop
    obtain⟨r,qq,h1,h2,h3⟩:=JC hacq hG.tr.norel h (by omega)
    exact⟨qq,h2,h3 i hg (Nat.le_of_not_lt λhlt=>h1.1.after i hlt hg hcc)⟩
  ·obtain⟨c,hc1,hc2⟩:=hG.sums
   have hcs:∀j,j<4->(c (A.N0+j)=0↔A.gd j):=λj hj=>by
    have:=(hc2 (A.N0+j) (by omega) (by omega)).2.2 λr e=>by rw[show(λk=>(x' k).seat) (A.N0+j)=_ from hq (A.N0+j) (by omega) (by omega)]at e;cases e
    rw[show A.N0+j-A.N0=j by omega]at this
    exact this
   refine⟨_,hc1,λhv k hk=> ?_,λhg=> ?_⟩
   ·have h1:sumTo (gs'.size-A.N0) (λi=>c (A.N0+i))=0:=by omega
    have h2:=le_sumTo (f:=λi=>c (A.N0+i)) (i:=k) (j:=gs'.size-A.N0) (by omega)
    exact(hcs k hk).1 (by omega)
   ·have:sumTo (gs'.size-A.N0) (λi=>c (A.N0+i))=0:=BZ λj hj=>(hcs j (by omega)).2 (hg j (by omega))
    omega
  ·have:=(hSt w₁ hw).2
   rw[hd]at this
   exact this
 ·have hAt:A.At Anch aU K gs' w' sl' m t' x' i g s:=⟨hn,ne,ai0,hback,hp',hi,hs',hst,ih⟩
  have hG:A.qL gs'.size (λk=>(x' k).seat) w' t':=hp'.pm
  have hS0:A.stop Anch aU i s (x' i).own (x' i).deaf g w':=hS w' (dO.refl Aj _ _)
  rcases hG.who hAt.lt hs' with⟨h0,hm⟩|⟨h0,_⟩
  ·subst h0
   cases s with
   |a1 r=>exact hAt.add1 rfl hS0
   |go r=>
    have g3:=(hAt.BX trivial).1
    have g3':gs'.size+(r+1)=A.N0+4:=g3
    cases r with
    |zero=>exact hAt.spawn (s':=.w1) (k:=3) rfl trivial trivial rfl (λvs e=>by cases e) rfl (λv hv=>by simp only[Ft.weigh];omega) (by omega) (λ_ _ _ _ h=>h) hS0
    |succ r=>
     refine hAt.spawn (s':=.a1 r) (k:=2-r) rfl trivial trivial rfl (λvs e=>by cases e) rfl (λv hv=> ?_) (by have:=hG.lo;omega) (λ_ _ _ _ h=>h) hS0
     simp only[Ft.weigh]
     have:(A.bnd+100)*(2*(r+1)+1)=(A.bnd+100)*(2*r+2)+(A.bnd+100):=by rw[show 2*(r+1)+1=(2*r+2)+1 by omega,Nat.mul_succ]
     omega
   |w1=>exact hAt.ae3 rfl hS0
   |w2 vs=>exact hAt.ae4 rfl hAn hS0
   |w3=>exact hAt.ae5 rfl λw₁ h₁=>hS w₁ h₁
   |w4=>exact hAt.ae6 rfl hS0
   |acq=>exact hAt.acquire rfl (λ_ _ _ _ h=>(hF _ _ _ _ h).2) hS0
   |fin=>exact absurd ⟨rfl,rfl⟩ hnf
   |_=>exact hm.elim
  ·exact hAt.work h0 hS0
end gW
end Go.Proofs.YtlncengggmgdgaaGreat.par
namespace Go.Proofs.YtlncengggmgdgaaGreat.par
open Go Go.Conc
open Go.ConcN (CT PermW sumTo)
section
variable {P : Program} {S : Nat → Prop}
theorem pU.past{gs:Array Goroutine}{w:World}{t:Trace}{O:Nat->Prop}{q:Nat->Nat}(h:pU P S gs w t O q):Past (inB S) w.heap.size t:=by
 refine⟨h.ti.ct.nr,λi a ha hm=> ?_,h.over,h.hear,h.ti.seen⟩
 obtain⟨op,hop,hx⟩:=touch_of ha
 by_cases hs:inB S a.loc
 ·obtain⟨h1,h2⟩:=h.ti.ct.quiet i op a hop hx hs
  cases hk:a.kind with
  |plain=>exact absurd hk h1
  |atomic=>exact .inr ⟨hs,rfl⟩
  |said=>
   have:=knows_own hop
   rw[h2 hk]at this
   exact .inl this
 ·refine .inl (h.ti.ct.free a.loc hs (λk k1 kj=>⟨λho=> ?_,λhr=> ?_⟩) i a ha rfl)
  ·obtain⟨b,h1,_⟩:=inB.two ho ho
   omega
  ·obtain⟨b,h1,_⟩:=inB.two hr.2 hr.2
   exact h1
theorem pU.leavers{gs:Array Goroutine}{w:World}{t:Trace}{O:Nat->Prop}{q:Nat->Nat}(h:pU P S gs w t O q):Leavers P t gs q:=
 ⟨λi g hi hg=>h.old i g (by omega) hg,λj hj=>h.ti.absent h.pos hj⟩
theorem VU{Post:Value->World->Prop}{gs:Array Goroutine}{w:World}{sl:Option (Nat×Nat)}{t:Trace}{O:Nat->Prop}{q:Nat->Nat}{a:Goroutine}(h:pU P S gs w t O q)(ha:gs[0]? =some a)
  (hend:∀w₁,AtRel w w₁->a.status=.running/\∃v,stepG P true a w₁=.ended (.done v) w₁ #[]/\Post v w₁):
  ∃N last o w' t',runNT P (N+1) (crowd gs w sl) t=(.ended o w',t')/\runN P N (crowd gs w sl)=.next last/\step P last=.ended o w'/\Conc.Good P Post last o w' t':=
 beside_ends (D:=λ_ _ _=>False) (Shun:=inB S) (B:=w.heap.size) (n:=0) (λ_ _ _ h=>h.elim) ha h.leavers h.past λw₁ h₁=>by
  obtain⟨h1,v,h2,h3⟩:=hend w₁ h₁
  exact⟨h1,v,#[],h2,λe he=>absurd he (by simp),h3⟩
theorem Nu(a:Goroutine)(w:World){O:Nat->Prop}(hO:∀b,O b->b<w.heap.size):pU P jk #[a] w #[] O (λ_=>0):=by
 refine⟨λi g hi hg=> ?_,⟨λk b hb=>hO b hb.2,λk k' b h1 h2=>by rw[h1.1,h2.1],λ_ _ _ h=>h,λ_ _ _ h=>h,λ_ h=>h.elim,λ_ h=>h.elim,λ_ h=>h.elim⟩,⟨⟨?_,?_,?_,?_,?_,past_nil.clean,?_⟩,λop hop=>absurd hop (by simp)⟩,rfl,by simp,past_nil.over⟩
 ·have:i<1:=by simpa using(Array.getElem?_eq_some_iff.1 hg).1
  omega
 ·intro i op x ho;simp at ho
 ·intro k _ _ l _ i a ha;simp[touchAt,Trace.act?]at ha
 ·intro k _ _ l _ i a ha;simp[touchAt,Trace.act?]at ha
 ·intro l _ _ i a ha;simp[touchAt,Trace.act?]at ha
 ·intro l _ _ i a ha;simp[touchAt,Trace.act?]at ha
 ·intro i op ho;simp at ho
end
section
variable {P : Program} {main : Bool} {U : Nat → Prop}
theorem OT.kept{Stop:(Nat->Prop)->Nat->Goroutine->World->Prop}{W:World}{X:Nat->Prop}{O:Nat->Prop}{d:Nat}{g:Goroutine}{w:World}(h:OT P main qJ (λO w w' es=>Gu1 O w w' es/\Av U es) Stop O d g w):
  (∀b,X b->b<w.heap.size/\¬O b)->mW X W w->OT P main qJ (λO w w' es=>Gu1 O w w' es/\Av U es) (λO' d g w=>Stop O' d g w/\mW X W w/\∀b,O' b->O b\/W.heap.size<=b) O d g w:=by
 have hE:∀{O:Nat->Prop}{w w₁:World},qJ O w w₁->mW X W w->mW X W w₁:=λ{O w w₁}he hs=>
  ⟨he.env.tape.trans hs.tape,he.env.os.trans hs.os,he.env.output.trans hs.output,Nat.le_trans hs.size he.env.size,λb hb=>by
   have:w₁.heap=w.heap:=he.live
   rw[this]
   exact hs.heap b hb⟩
 induction h with
 |stop h=>exactλ_ hs=>.stop λw₁ he=>⟨h w₁ he,hE he hs,λb hb=>.inl hb⟩
 | @step O d g w hr g' w' es h hg _ ih=>
  intro hX hs
  refine OT.mk hr λw₁ he=>⟨_,_,_,h w₁ he,hg w₁ he,?_⟩
  have hh:w₁.heap=w.heap:=he.live
  have hg1:=(hg w₁ he).1
  have hs1:=hE he hs
  refine OT.weaken (λO' d g z⟨x1,x2,x3⟩=>⟨x1,x2,λb hb=>(x3 b hb).elim (λh=>h.elim .inl λh=>.inr (Nat.le_trans hs1.size h.1)) .inr⟩) (ih w₁ he (λb hb=> ?_) ⟨hg1.tape.trans hs1.tape,hg1.os.trans hs1.os,hg1.output.trans hs1.output,Nat.le_trans hs1.size hg1.size,λb hb=> ?_⟩)
  ·obtain⟨h1,h2⟩:=hX b hb
   rw[<-hh]at h1
   refine⟨Nat.lt_of_lt_of_le h1 hg1.size,λho=>ho.elim h2 λh3=> ?_⟩
   omega
  ·obtain⟨h1,h2⟩:=hX b hb
   rw[<-hh]at h1
   exact(hg1.kept b h1 h2).trans (hs1.heap b hb)
end
section
variable {σ : Nat → Nat} {D : Nat → Prop} {T : Tables} {Sp : FuncId → Prop} {F' F : Array Func} {u : World}
theorem VW{fr' fr:Frame}(hf:jf σ D T Sp F' F fr' fr){v:Value}(hl:fr'.leaving ⟨T,F'⟩ u (.returned v)){fn:Func}{k:Tmp}(hfn:F[fr.fn]? =some fn)(hr:fn.results= #[.tmp k])(hi:(⟨T,F⟩:Program).inits.idxOf? fr.fn=none)(w:World):
  ∃v',VR σ D v v'/\stepG ⟨T,F⟩ true (G fr []) w=.ended (.done v') w #[]:=by
 obtain⟨hm,hd,hk,fn',hfn',hrun⟩:=hl
 obtain⟨f',f,hf1,hf2,hres⟩:=hf.known
 have hfe:=hf.fn
 have hmode:=hf.mode
 have hdf:=hf.defers
 have hkd:=hf.kind
 rw[hm]at hmode
 rw[hd]at hdf
 generalize hy2:fr.mode=y at hmode
 generalize hk2:fr.defers=m at hdf
 cases hmode
 cases hdf
 obtain rfl:f'=fn':=Option.some.inj (hf1.symm.trans (by rw[<-hfe];exact hfn'))
 obtain rfl:f=fn:=Option.some.inj (hf2.symm.trans hfn)
 rw[results_tmp (hres.trans hr)]at hrun
 injection hrun with hv _
 subst hv
 refine⟨fr.tmps.getD k undef,?_,?_⟩
 ·have:=wC hf.tmps k
  exact this
 ·have h1:(results f fr.tmps).runT (⟨T,F⟩:Program) w #[]=(.ok (fr.tmps.getD k undef) w,#[]):=by
   rw[Sem.runT_eq,results_tmp hr,events_results_tmp hr]
  rw[eX (by rw[hy2];exact FrameMode.noConfusion),pO hk2 hy2 hf2 h1]
  have hkk:fr.kind=.normal:=hkd.symm.trans hk
  unfold doReturn
  simp only[hkk,hi]
  rfl
end
end Go.Proofs.YtlncengggmgdgaaGreat.par
