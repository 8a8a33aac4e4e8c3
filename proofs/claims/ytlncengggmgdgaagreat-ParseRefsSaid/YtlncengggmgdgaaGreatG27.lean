/- varint.TakeRow, parse.TakeRefs. LONE=M. No conditions. -/
import Derived.Test.YtlncengggmgdgaaGreatG22
import Derived.Test.YtlncengggmgdgaaGreatG24
import Derived.Test.YtlncengggmgdgaaGreatLu
import Derived.Laws.IdiomStrings
set_option linter.unusedVariables false
set_option linter.unusedSimpArgs false
set_option maxRecDepth 100000
namespace Go.Proofs.YtlncengggmgdgaaGreat.ps
open Go Go.RowKit cm cw gr hd lx
open fr (VT vt jX take_any jl)
attribute [local irreducible] par.ah
inductive rZ where
 |ok (xs:List Int) (p:Nat)
 |er (e:Nat)
def lU(l:List Nat):Nat->Nat->List Int->rZ
 |0,p,acc=>.ok acc p
 |k+1,p,acc=>match vt 0 0 (l.drop p)with
  | .ok v n=>lU l k (p+n) (acc++[(v:Int)])
  | .short=>.er 2
  | .form=>.er 3
def qo(R:rZ)(w:World)(e:Ending)(w':World):Prop:=
 Below w.heap.size w w'/\match R with
  | .ok xs q=>∃v,e=.returned (.tuple #[v,.int .i64 (q:Int),.int .i64 0])/\aX 24 1 nH w' w.heap.size v xs
  | .er c=>e=.returned (.tuple #[.slice none 0 0,.int .i64 0,.int .i64 (c:Int)])
structure Qu(l:List Nat)(xs:List Int)(q:Nat):Prop where
 le:q<=l.length
 len:xs.length<=q
 small:∀x∈xs,0<=x/\x<18446744073709551616
theorem xw{l:List Nat}(hl:∀b∈l,b<256):∀(k p:Nat)(acc:List Int){xs:List Int}{q:Nat},Qu l acc p->lU l k p acc=.ok xs q->Qu l xs q
 |0,p,acc,xs,q,h,e=>by cases e;exact h
 |k+1,p,acc,xs,q,h,e=>by
  unfold lU at e
  split at e
  ·rename_i v n hv
   have h2:=jl _ 0 0 (λb hb=>hl b (List.mem_of_mem_drop hb)) (by decide) (by omega) hv
   rw[List.length_drop]at h2
   have:=h.le
   have:=h.len
   refine xw hl k _ _ ⟨by omega,by simp;omega,λx hx=> ?_⟩ e
   rcases List.mem_append.1 hx with hx|hx
   ·exact h.small x hx
   ·obtain rfl:=List.mem_singleton.1 hx;omega
  ·cases e
  ·cases e
theorem xA{l:List Nat}:∀(k p:Nat)(acc:List Int){xs:List Int}{q:Nat},lU l k p acc=.ok xs q->xs.length=acc.length+k
 |0,p,acc,xs,q,e=>by cases e;rfl
 |k+1,p,acc,xs,q,e=>by
  unfold lU at e
  split at e
  ·have:=xA k _ _ e;simp at this;omega
  ·cases e
  ·cases e
theorem Aw{l:List Nat}:∀(k p:Nat)(acc:List Int){c:Nat},lU l k p acc=.er c->c=2\/c=3
 |0,p,acc,c,e=>by cases e
 |k+1,p,acc,c,e=>by
  unfold lU at e
  split at e
  ·exact Aw k _ _ e
  ·cases e;exact .inl rfl
  ·cases e;exact .inr rfl
set_option maxHeartbeats 4000000 in
theorem zJ(s:ByteArray)(p n:Nat)(w:World)(hs:s.size<10000000000)(hp:p<=s.size)(hn:n<9223372036854775808):
  Calls (par.ah par.Hm) 60 #[.string s,.int .i64 p,.int .i64 n] w λe w'=>qo (lU (au s) n p []) w e w':=by
 have ip:¬(p:Int)<0:=by omega
 have inn:¬(n:Int)<0:=by omega
 have HP:=Lib.hid hp
 clear hp
 go_enter (par.adr (H:=par.Hm)),Tryz.ntmps60
 go_wp2_with fail
 generalize hR:lU (au s) n p []=R
 have hR0:=Lib.hid hR
 go_loopw [6,7,20] (λl q i wr=>∃(k P:Nat)(acc:List Int),k<=n/\P<=s.size/\i=.int .i64 k/\q=.int .i64 P/\Hid (acc.length<=P)/\Hid (aX 24 1 nH wr w.heap.size l acc)/\Hid (lU (au s) (n-k) P acc=R)/\Hid (Below w.heap.size w wr)) (λ_ _ i _=>n-(intOf i).toNat)
 case atStart=>exact⟨0,p,[],Nat.zero_le _,HP.out,rfl,rfl,Lib.hid (Nat.zero_le _),Lib.hid (aX.nil _ _),Lib.hid hR,Lib.hid (Below.refl _ _)⟩
 case round=>
  obtain⟨k,P,acc,hk,hP,rfl,rfl,hal,ho,hr,hb⟩:=hrel
  clear hR
  by_cases hlk:k<n
  ·obtain⟨m,hm⟩:∃m,n-k=m+1:=⟨n-k-1,by omega⟩
   rw[hm]at hr
   have HM:=Lib.hid hm
   clear hm
   have H10:=Lib.hid λv c(h:vt 0 0 ((au s).drop P)=.ok v c)=>jl _ 0 0 (λb hb=>bP s b (List.mem_of_mem_drop hb)) (by decide) (by omega) h
   go_wp2_with fail
   refine(take_any (HC:=par.Hm) s P _ (by omega) hP).mono ?_;rintro e ww ⟨rfl,rfl⟩
   rcases hv:vt 0 0 ((au s).drop P)with⟨v,c⟩|_|_
   ·obtain⟨hc0,hc1,hv1⟩:=H10.out v c hv
    rw[List.length_drop,aC]at hc1
    have HV:Hid (lU (au s) m (P+c) (acc++[(v:Int)])=R):=Lib.hid (by rw[<-hr.out];show _=(match vt 0 0 ((au s).drop P)with| .ok v n=>_| .short=>_| .form=>_);rw[hv])
    have HL:Hid (acc.length+1<100000000000):=Lib.hid (by have:=hal.out;omega)
    have HL2:Hid ((acc++[(v:Int)]).length<=P+c):=Lib.hid (by have:=hal.out;simp;omega)
    have hPc:P+c<=s.size:=by omega
    clear hv hr H10 hal hc0 hc1 hv1
    unfold jX
    go_wp2_with (at_builtin;refine rY _ rfl _ _ rfl w.heap.size _ _ acc [(v:Int)] rfl rfl ?c0 (KA _ _ rfl) HL.out ?c1 ?c2)
    case c0=>exact ho.out.tr (by exact bm)
    case c1=>have:=hb.out.size;simp;omega
    case c2=>
    intro v' w2 ho2 hg hat
    have H2:=Lib.hid ho2
    have H3:Hid (Below w.heap.size w w2):=Lib.hid (dF hg (eG hb.out (Nat.le_refl _) _) (Nat.le_refl _) ho.out.block)
    clear ho2 hg hat
    go_wp2_with fail
    exact⟨⟨k+1,P+c,_,by omega,hPc,by go_num,rfl,HL2,H2,Lib.hid (by rw[show n-(k+1)=m from by have:=HM.out;omega];exact HV.out),H3⟩,by simp[intOf];omega⟩
   ·have HV:Hid (.er 2=R):=Lib.hid (by rw[<-hr.out];show _=(match vt 0 0 ((au s).drop P)with| .ok v n=>_| .short=>_| .form=>_);rw[hv])
    clear hv hr H10
    unfold jX
    go_wp2_with fail
    ((try simp only[Exit.inBlock,Exit.then,Exit.noGoto_ret,Exit.noGoto_normal,Exit.noGoto_exit]);refine bodyPost_ret (results_tmp3 rfl _ _ _) rfl ?_)
    rw[hR0.out,<-HV.out]
    exact⟨hb.out,rfl⟩
   ·have HV:Hid (.er 3=R):=Lib.hid (by rw[<-hr.out];show _=(match vt 0 0 ((au s).drop P)with| .ok v n=>_| .short=>_| .form=>_);rw[hv])
    clear hv hr H10
    unfold jX
    go_wp2_with fail
    ((try simp only[Exit.inBlock,Exit.then,Exit.noGoto_ret,Exit.noGoto_normal,Exit.noGoto_exit]);refine bodyPost_ret (results_tmp3 rfl _ _ _) rfl ?_)
    rw[hR0.out,<-HV.out]
    exact⟨hb.out,rfl⟩
  ·obtain rfl:k=n:=by omega
   have HV:Hid (.ok acc P=R):=Lib.hid (by rw[<-hr.out,Nat.sub_self];rfl)
   go_wp2_with fail
   ((try simp only[Exit.inBlock,Exit.then,Exit.noGoto_ret,Exit.noGoto_normal,Exit.noGoto_exit]);refine bodyPost_ret (results_tmp3 rfl _ _ _) rfl ?_)
   rw[hR0.out,<-HV.out]
   exact⟨hb.out,_,rfl,ho.out⟩
def jm:List Int->Option (List Int)
 |[]=>some []
 |a::t=>if a=0\/lC a=true then(jm t).map λl=>(if a=0 then 0 else 2*a+1)::l else none
def iG(l:List Nat)(n p:Nat):rZ:=
 match lU l n p []with
 | .er c=>.er c
 | .ok xs q=>match jm xs with
  |none=>.er 3
  |some zs=>.ok zs q
theorem tX:∀(xs:List Int){zs:List Int},jm xs=some zs->zs.length=xs.length
 |[],zs,h=>by cases h;rfl
 |a::t,zs,h=>by
  unfold jm at h
  split at h
  ·cases ht:jm t with
   |none=>rw[ht]at h;cases h
   |some l=>rw[ht]at h;cases h;simp[tX t ht]
  ·cases h
theorem uV:∀(pre:List Int)(a:Int)(post zs:List Int),jm pre=some zs->jm (pre++a::post)=if a=0\/lC a=true then(jm post).map λl=>zs++(if a=0 then 0 else 2*a+1)::l else none
 |[],a,post,zs,h=>by cases h;rfl
 |b::pre,a,post,zs,h=>by
  unfold jm at h
  split at h
  ·rename_i hb
   cases ht:jm pre with
   |none=>rw[ht]at h;cases h
   |some l=>
    rw[ht]at h
    cases h
    show jm (b::(pre++a::post))=_
    rw[jm,if_pos hb,uV pre a post l ht]
    by_cases hc:a=0\/lC a=true
    ·rw[if_pos hc,if_pos hc];cases jm post<;>rfl
    ·rw[if_neg hc,if_neg hc];rfl
  ·cases h
set_option maxHeartbeats 4000000 in
theorem jY(s:ByteArray)(p n:Nat)(w:World)(hs:s.size<10000000000)(hp:p<=s.size)(hn:n<9223372036854775808):
  Calls (par.ah par.Hm) 23 #[.string s,.int .i64 p,.int .i64 n] w λe w'=>qo (iG (au s) n p) w e w':=by
 go_enter (par.ac7 (H:=par.Hm)),Tryz.ntmps23
 go_wp2_with fail
 refine(zJ s p n _ hs hp hn).mono ?_;rintro e w1 ⟨b1,h1⟩
 generalize hR:iG (au s) n p=R
 have hR0:=Lib.hid hR
 unfold iG at hR
 rcases hrow:lU (au s) n p []with⟨xs,q⟩|c
 ·rw[hrow]at hR h1
  dsimp only at hR h1
  obtain⟨v,rfl,ho⟩:=h1
  have hok:=xw (bP s) _ _ _ ⟨by rw[aC];exact hp,Nat.zero_le _,λx hx=>by cases hx⟩ hrow
  obtain⟨hql,hxl,hxs⟩:=hok
  rw[aC]at hql
  obtain⟨ad,b,off,cap,rfl,i1,i2,i3,i4,i5,i6⟩:=(ho.sees aN).form
  have HO:=Lib.hid ho
  have H6:=Lib.hid i6
  have HX:=Lib.hid hxs
  clear i6 hxs i2 ho hrow
  generalize hm:xs.length=m at*
  have HN:=Lib.hid hm
  have HRR:=Lib.hid hR
  clear hm hR
  go_wp2_with fail
  go_loopw [6,7,8,26] (λu nx e i wr=>∃(k:Nat)(zs:List Int),k<=m/\i=.int .i64 k/\nx=.int .i64 q/\e=.int .i64 0/\Hid (jm (xs.take k)=some zs)/\Hid (aX 24 1 nH wr w1.heap.size u zs)/\Hid (Below w1.heap.size w1 wr)) (λ_ _ _ i _=>m-(intOf i).toNat)
  case atStart=>exact⟨0,[],Nat.zero_le _,rfl,rfl,rfl,Lib.hid rfl,Lib.hid (aX.nil _ _),Lib.hid (Below.refl _ _)⟩
  case round=>
   obtain⟨k,zs,hk,rfl,rfl,rfl,hz,ho,hb⟩:=hrel
   by_cases hlt:k<m
   ·have had:=i1 (by omega)
    subst had
    have hkx:k<xs.length:=by rw[HN.out];exact hlt
    have hcell:=aJ hb.out (H6.out.at (i:=k) (x:=xs[k]) (List.getElem?_eq_getElem hkx) 0 _ rfl)
    rw[Nat.mul_one,Nat.add_zero]at hcell
    obtain⟨hx0,hx1⟩:=HX.out xs[k] (List.getElem_mem hkx)
    have HS:Hid (xs.take (k+1)=xs.take k++[xs[k]]):=Lib.hid (by rw[List.take_add_one,List.getElem?_eq_getElem hkx];rfl)
    have HW:Hid (xs=xs.take k++xs[k]::xs.drop (k+1)):=Lib.hid (by rw[List.getElem_cons_drop,List.take_append_drop])
    have HL:Hid (zs.length+1<100000000000):=Lib.hid (by rw[tX _ hz.out];simp;omega)
    have HA:=Lib.hid (uV (xs.take k) xs[k] (xs.drop (k+1)) zs hz.out)
    have HA1:=Lib.hid (uV (xs.take k) xs[k] [] zs hz.out)
    rw[<-HW.out]at HA
    rw[<-HS.out]at HA1
    generalize xs[k]=X at*
    clear hkx HW
    by_cases hX:X=0
    ·subst hX
     go_wp2_with (at_builtin;refine rY _ rfl _ _ rfl w1.heap.size _ _ zs [0] rfl rfl ?c0 (KA _ _ rfl) HL.out ?c1 ?c2)
     case c0=>exact ho.out.tr (by exact bm)
     case c1=>have:=hb.out.size;simp;omega
     case c2=>
     intro v' w2 ho2 hg hat
     have H2:=Lib.hid ho2
     have H3:Hid (Below w1.heap.size w1 w2):=Lib.hid (dF hg (eG hb.out (Nat.le_refl _) _) (Nat.le_refl _) ho.out.block)
     clear ho2 hg hat
     go_wp2_with fail
     exact⟨⟨k+1,_,by omega,by go_num,rfl,rfl,Lib.hid (by rw[HA1.out];rfl),H2,H3⟩,by simp[intOf];omega⟩
    ·have hne:(X !=0)=true:=by simp[hX]
     go_wp2_with fail
     refine(Qo X _ hx0 hx1).mono ?_;rintro e ww ⟨rfl,rfl⟩
     by_cases hk1:lC X=true
     ·have hE:um X=0:=by simp[um,hk1]
      have hV:uj X=2*X+1:=by simp[uj,hk1]
      rw[hE,hV]
      rw[if_pos (.inr hk1),if_neg hX]at HA1
      go_wp2_with (at_builtin;refine rY _ rfl _ _ rfl w1.heap.size _ _ zs [2*X+1] rfl rfl ?c0 (KA _ _ rfl) HL.out ?c1 ?c2)
      case c0=>exact ho.out.tr (by exact bm)
      case c1=>have:=hb.out.size;simp;omega
      case c2=>
      intro v' w2 ho2 hg hat
      have H2:=Lib.hid ho2
      have H3:Hid (Below w1.heap.size w1 w2):=Lib.hid (dF hg (eG hb.out (Nat.le_refl _) _) (Nat.le_refl _) ho.out.block)
      clear ho2 hg hat
      go_wp2_with fail
      exact⟨⟨k+1,_,by omega,by go_num,rfl,rfl,Lib.hid (by rw[HA1.out];rfl),H2,H3⟩,by simp[intOf];omega⟩
     ·have hE:um X=1:=by simp[um,hk1]
      rw[hE]
      rw[if_neg (by rintro(h|h);exact hX h;exact hk1 h)]at HA
      go_wp2_with fail
      ((try simp only[Exit.inBlock,Exit.then,Exit.noGoto_ret,Exit.noGoto_normal,Exit.noGoto_exit]);refine bodyPost_ret (results_tmp3 rfl _ _ _) rfl ?_)
      rw[hR0.out,<-HRR.out,HA.out]
      exact⟨b1.trans (hb.out.mono b1.size),rfl⟩
   ·obtain rfl:k=m:=by omega
    rw[show xs.take k=xs by rw[<-HN.out,List.take_length]]at hz
    go_wp2_with fail
    ((try simp only[Exit.inBlock,Exit.then,Exit.noGoto_ret,Exit.noGoto_normal,Exit.noGoto_exit]);refine bodyPost_ret (results_tmp3 rfl _ _ _) rfl ?_)
    rw[hR0.out,<-HRR.out,hz.out]
    exact⟨b1.trans (hb.out.mono b1.size),_,rfl,ho.out.lift b1.size⟩
 ·rw[hrow]at hR h1
  dsimp only at hR h1
  subst h1
  have hb1:=Lib.hid b1
  rcases Aw _ _ _ hrow with rfl|rfl
  all_goals
   have HRR:=Lib.hid hR
   clear hR hrow
   go_wp2_with fail
   ((try simp only[Exit.inBlock,Exit.then,Exit.noGoto_ret,Exit.noGoto_normal,Exit.noGoto_exit]);refine bodyPost_ret (results_tmp3 rfl _ _ _) rfl ?_)
   rw[hR0.out,<-HRR.out]
   exact⟨hb1.out,rfl⟩
end Go.Proofs.YtlncengggmgdgaaGreat.ps
namespace Go.Proofs.YtlncengggmgdgaaGreat.ps
open Go Go.RowKit cm cw gr hd lx
attribute [local irreducible] par.ah
def H7:List Nat->Nat
 |[]=>0
 |b::t=>b+256*H7 t
theorem H8:∀{l:List Nat},(∀b∈l,b<256)->H7 l<256^l.length
 |[],h=>by decide
 |b::t,h=>by
  have h1:=H8 (l:=t) λx hx=>h x (List.mem_cons_of_mem _ hx)
  have h2:=h b (by simp)
  show b+256*H7 t<256^(t.length+1)
  rw[Nat.pow_succ]
  omega
theorem aaW{n x:Nat}(hn:n<72057594037927936)(hx:x<256):bits .or .u64 ((n:Int)*256) (x:Int)=((x+256*n:Nat):Int):=by
 have:=u64_or_nat (n*256) x (by omega) (by omega)
 rw[show((n*256:Nat):Int)=(n:Int)*256 from by omega]at this
 rw[this]
 have h2:=Nat.two_pow_add_eq_or_of_lt (i:=8) (b:=x) (by omega) n
 rw[Nat.mul_comm,show(256:Nat)=2^8 from rfl,<-h2]
 omega
set_option maxHeartbeats 4000000 in
theorem Ou(b off cap:Nat)(xs:List Nat)(w:World)(hlen:xs.length=8)(hx:∀x∈xs,x<256)(hc:∀i(h:i<xs.length),w.cell? ⟨b,off+i,none⟩=some (.int .u8 (xs[i]:Nat))):
  Calls (par.ah par.Hm) 189 #[.slice (some ⟨b,off,none⟩) 8 cap] w λe w'=>e=.returned (.int .u64 (H7 xs:Nat))/\w=w':=by
 have HC:=Lib.hid hc
 have HX:=Lib.hid hx
 have HN:=Lib.hid hlen
 clear hc hx hlen
 go_enter (par.aan (H:=par.Hm)),Tryz.ntmps189
 go_wp2_with fail
 go_loopw [3,4] (λv i wr=>∃(k:Nat),k<=8/\i=.int .i64 ((k:Int)-1)/\v=.int .u64 (H7 (xs.drop k):Nat)/\wr=w) (λ_ i _=>(intOf i+1).toNat)
 case atStart=>exact⟨8,by omega,rfl,by rw[List.drop_eq_nil_of_le (by rw[HN.out];omega)];rfl,rfl⟩
 case round=>
  obtain⟨k,hk,rfl,rfl,rfl⟩:=hrel
  rcases k with _|k
  ·go_wp2_with fail
   go_ret
   exact⟨by rfl,rfl⟩
  ·have hkx:k<xs.length:=by rw[HN.out];omega
   have hcell:=HC.out k hkx
   have hb:=HX.out xs[k] (List.getElem_mem hkx)
   have HD:Hid (xs.drop k=xs[k]::xs.drop (k+1)):=Lib.hid (List.drop_eq_getElem_cons hkx)
   have hlt:H7 (xs.drop (k+1))<256^7:=by
    have h1:=H8 (l:=xs.drop (k+1)) λx hx=>HX.out x (List.mem_of_mem_drop hx)
    rw[List.length_drop,HN.out]at h1
    exact Nat.lt_of_lt_of_le h1 (Nat.pow_le_pow_right (by omega) (by omega))
   have hlt2:H7 (xs.drop (k+1))<72057594037927936:=hlt
   generalize xs[k]=X at*
   generalize hNN:H7 (xs.drop (k+1))=N at*
   have HNN:=Lib.hid hNN
   clear hNN
   have HO:=Lib.hid (aaW hlt2 hb)
   have hi:((k+1:Nat):Int)-1=(k:Int):=by omega
   rw[hi]
   have hge:¬(k:Int)<0:=by omega
   have ame:(0:Int)<=(k:Int):=by omega
   go_wp2_with fail
   refine⟨⟨k,by omega,by go_num,?_,trivial⟩,by first|(simp[intOf];done)|(simp[intOf];omega)⟩
   rw[HD.out,HO.out,<-HNN.out]
   rfl
def wordAt(l:List Nat)(p:Nat):Int:=(H7 ((l.drop p).take 8):Nat)
def og(l:List Nat)(p n:Nat):List Int:=(List.range n).map λi=>wordAt l (p+8*i)
def xB(l:List Nat)(n p:Nat):rZ:=if l.length<p\/(l.length-p)/8<n then .er 2 else .ok (og l p n) (p+8*n)
theorem KC(l:List Nat)(p k:Nat):og l p (k+1)=og l p k++[wordAt l (p+8*k)]:=by simp[og,List.range_succ]
theorem XK(s:ByteArray)(p m:Nat)(hle:p+m<=s.size)(W:World)(C:Nat)(f:Nat×Nat)(i:Nat)(hi:i<m):
  (W.alloc (.cells (bytesRow (s.extract p (p+m)) C) 5 f)).cell? ⟨W.heap.size,i,none⟩=some (.int .u8 (((au s).getD (p+i) 0:Nat):Int)):=by
 have hsz:i<(s.extract p (p+m)).data.size:=by
  show i<(s.extract p (p+m)).size
  simp;omega
 have h2:p+i<s.data.toList.length:=by
  show p+i<s.data.toList.length
  rw[Array.length_toList]
  show p+i<s.size
  omega
 rw[World.cell?_alloc_mark,bytesRow_at _ _ _ hsz]
 simp only[au,List.getD,List.getElem?_map,List.getElem?_eq_getElem h2]
 simp[ByteArray.data_extract]
theorem TN{n:Nat}{a b:World}(h:Below n a b){p:Addr}(hp:p.block<n):b.cell? p=a.cell? p:=by simp[World.cell?,h.block _ hp]
set_option maxHeartbeats 4000000 in
theorem TP(s:ByteArray)(p n:Nat)(w:World)(hs:s.size<10000000000)(hp:p<=s.size)(hn:n<9223372036854775808):
  Calls (par.ah par.Hm) 176 #[.string s,.int .i64 p,.int .i64 n,.int .i64 8] w λe w'=>qo (xB (au s) n p) w e w':=by
 have ip:¬(p:Int)<0:=by omega
 have inn:¬(n:Int)<0:=by omega
 have ips:¬(s.size:Int)<(p:Int):=by omega
 have hsub:(s.size:Int)-(p:Int)=((s.size-p:Nat):Int):=by omega
 by_cases hq:(s.size-p)/8<n
 ·have hqi:(((s.size-p)/8:Nat):Int)<(n:Int):=by omega
  go_enter (par.Qa (H:=par.Hm)),Tryz.ntmps176
  go_wp2_with fail
  ((try simp only[Exit.inBlock,Exit.then,Exit.noGoto_ret,Exit.noGoto_normal,Exit.noGoto_exit]);refine bodyPost_ret (results_tmp3 rfl _ _ _) rfl ?_)
  unfold xB
  rw[if_pos (.inr (by rw[aC];exact hq))]
  exact⟨Below.refl _ _,rfl⟩
 ·have hcv:=λ(W:World)(z:ByteArray)=>run_bytes_of_string (P:=(par.ah par.Hm)) W 9 92 5 z ((par.aB par.Hm 9).trans Tryz.underlying9) ((par.aB par.Hm 92).trans Tryz.underlying92) ((par.aB par.Hm 5).trans Tryz.underlying5)
  have hle:p+n*8<=s.size:=by omega
  have hmin:min (p+n*8) s.size-p=n*8:=by rw[Nat.min_eq_left hle];omega
  have hG:=grownCap_ge w (n*8) 0 5
  go_enter (par.Qa (H:=par.Hm)),Tryz.ntmps176
  go_wp2_with fail
  generalize grownCap w (n*8) 0 5=G at*
  go_loopw [8,12] (λl i wr=>∃(k:Nat),k<=n/\i=.int .i64 ((k*8:Nat):Int)/\Hid (aX 24 1 nH wr (w.heap.size+1) l (og (au s) p k))/\Hid (Below w.heap.size w wr)/\Hid (w.heap.size+1<=wr.heap.size)/\Hid (∀i,i<n*8->wr.cell? ⟨w.heap.size,i,none⟩=some (.int .u8 (((au s).getD (p+i) 0:Nat):Int)))) (λ_ i _=>n*8-(intOf i).toNat)
  case atStart=>
   refine⟨0,Nat.zero_le _,rfl,Lib.hid (aX.nil _ _),Lib.hid ?_,Lib.hid ?_,Lib.hid ?_⟩
   ·exact bm
   ·simp
   ·intro i hi
    exact XK s p (n*8) hle _ _ _ i hi
  case round=>
   obtain⟨k,hk,rfl,ho,hb,hsz,hc⟩:=hrel
   by_cases hlk:k<n
   ·have hx8:Hid (∀x∈((au s).drop (p+8*k)).take 8,x<256):=Lib.hid λx hx=>bP s x (List.mem_of_mem_drop (List.mem_of_mem_take hx))
    have hl8:Hid ((((au s).drop (p+8*k)).take 8).length=8):=Lib.hid (by rw[List.length_take,List.length_drop,aC];omega)
    have hc8:Hid (∀i(h:i<(((au s).drop (p+8*k)).take 8).length),wr.cell? ⟨w.heap.size,k*8+i,none⟩=some (.int .u8 (((((au s).drop (p+8*k)).take 8)[i]:Nat):Int))):=Lib.hid λi h=>by
     have h8:i<8:=by rw[<-hl8.out];exact h
     rw[hc.out (k*8+i) (by omega)]
     have hb:p+(k*8+i)<(au s).length:=by rw[aC];omega
     rw[List.getElem_take,List.getElem_drop,List.getD,List.getElem?_eq_getElem hb]
     simp[show p+(k*8+i)=p+8*k+i from by omega]
    have HS:=Lib.hid (KC (au s) p k)
    have HL:Hid ((og (au s) p k).length+1<100000000000):=Lib.hid (by simp[og];omega)
    have hk8:k*8+8<=n*8:=by omega
    have hGk:(k:Int)*8+8<=(G:Int):=by omega
    have amg:(0:Int)<=(k:Int)*8+8:=by omega
    go_wp2_with fail
    refine(Ou w.heap.size (k*8) 8 _ _ hl8.out hx8.out hc8.out).mono ?_;rintro e ww ⟨rfl,rfl⟩
    go_wp2_with (at_builtin;refine rY _ rfl _ _ rfl (w.heap.size+1) _ _ (og (au s) p k) [_] rfl rfl ?c0 (KA _ _ rfl) HL.out ?c1 ?c2)
    case c0=>exact ho.out.tr (by exact bm)
    case c1=>have:=hsz.out;simp;omega
    case c2=>
    intro v' w2 ho2 hg hat
    have H2:=Lib.hid ho2
    have H3:Hid (Below (w.heap.size+1) wr w2):=Lib.hid (dF hg (eG (Below.refl _ _) hsz.out _) hsz.out ho.out.block)
    clear ho2 hg hat
    go_wp2_with fail
    refine⟨⟨k+1,by omega,by go_num,Lib.hid (by rw[HS.out];exact H2.out),Lib.hid ?_,Lib.hid ?_,Lib.hid λi hi=> ?_⟩,by simp[intOf];omega⟩
    ·exact hb.out.trans (H3.out.mono (Nat.le_succ _))
    ·exact Nat.le_trans hsz.out H3.out.size
    ·rw[TN H3.out (by simp)];exact hc.out i hi
   ·obtain rfl:k=n:=by omega
    go_wp2_with fail
    ((try simp only[Exit.inBlock,Exit.then,Exit.noGoto_ret,Exit.noGoto_normal,Exit.noGoto_exit]);refine bodyPost_ret (results_tmp3 rfl _ _ _) rfl ?_)
    unfold xB
    rw[if_neg (by rw[aC];omega)]
    exact⟨hb.out,_,by rw[Nat.mul_comm 8];rfl,ho.out.lift (Nat.le_succ _)⟩
theorem Ed(s:ByteArray)(p n:Nat)(w:World)(hs:s.size<10000000000)(hp:p<=s.size)(hn:n<9223372036854775808):
  Calls (par.ah par.Hm) 145 #[.string s,.int .i64 p,.int .i64 n] w λe w'=>qo (xB (au s) n p) w e w':=by
 go_enter (par.Z9 (H:=par.Hm)),Tryz.ntmps145
 go_wp2_with fail
 refine(TP s p n _ hs hp hn).mono ?_;rintro e w1 ⟨b1,h1⟩
 generalize hR:xB (au s) n p=R
 have hR0:=Lib.hid hR
 rw[hR]at h1
 clear hR
 rcases R with⟨xs,q⟩|c
 ·obtain⟨v,rfl,ho⟩:=h1
  go_wp2_with fail
  ((try simp only[Exit.inBlock,Exit.then,Exit.noGoto_ret,Exit.noGoto_normal,Exit.noGoto_exit]);refine bodyPost_ret (results_tmp3 rfl _ _ _) rfl ?_)
  rw[hR0.out]
  exact⟨b1,_,rfl,ho⟩
 ·dsimp only at h1
  subst h1
  go_wp2_with fail
  ((try simp only[Exit.inBlock,Exit.then,Exit.noGoto_ret,Exit.noGoto_normal,Exit.noGoto_exit]);refine bodyPost_ret (results_tmp3 rfl _ _ _) rfl ?_)
  rw[hR0.out]
  exact⟨b1,rfl⟩
theorem Qv{l:List Nat}(hl:∀b∈l,b<256){n p q:Nat}{xs:List Int}(h:xB l n p=.ok xs q):Qu l xs q:=by
 unfold xB at h
 split at h
 ·cases h
 ·cases h
  refine⟨by omega,by simp[og];omega,λx hx=> ?_⟩
  obtain⟨i,_,rfl⟩:=List.mem_map.1 hx
  have h1:=H8 (l:=(l.drop (p+8*i)).take 8) λx hx=>hl x (List.mem_of_mem_drop (List.mem_of_mem_take hx))
  have h2:((l.drop (p+8*i)).take 8).length<=8:=by rw[List.length_take];omega
  have h3:=Nat.lt_of_lt_of_le h1 (Nat.pow_le_pow_right (by omega) h2)
  unfold wordAt
  have:(256:Nat)^8=18446744073709551616:=by decide
  omega
end Go.Proofs.YtlncengggmgdgaaGreat.ps
