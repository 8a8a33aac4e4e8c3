/- Five operations of a region in whatever order: one account of all orders. No conditions. -/
import Derived.Test.YtpgjploaliefdaaGreatG01
import Derived.OrdersHeld
import Derived.RegionTactic
namespace Go.Proofs.YtpgjploaliefdaaGreat.five
open Go
set_option linter.unusedVariables false
set_option linter.unusedSimpArgs false
def pO(d:Tmp)(o:Option Value)(a:Act):Act:=match o with|some v=>a.put (some d) v|none=>a
def lO(i:Nat)(o:Option Value)(l:Array Bool):Array Bool:=match o with|some _=>l.setIfInBounds i true|none=>l
theorem rO{d e:Tmp}(h:d≠e)(o:Option Value)(v:Value)(a:Act):(pO d o a).put (some e) v=pO d o (a.put (some e) v):=by
 cases o with
 |none=>rfl
 |some u=>exact Act.put_comm a (x:=some d) (y:=some e) u v (λx hx hy=>h (Option.some.inj (hx.trans hy.symm)))
theorem rP{i j:Nat}(h:i≠j)(o:Option Value)(l:Array Bool):(lO i o l).setIfInBounds j true=lO i o (l.setIfInBounds j true):=by
 cases o with
 |none=>rfl
 |some u=>exact Array.setIfInBounds_comm _ _ h
theorem zU{d j:Tmp}(h:d≠j)(o:Option Value)(a:Act):(pO d o a).eval (.tmp j)=a.eval (.tmp j):=by
 cases o with
 |none=>rfl
 |some u=>
  show(a.tmps.setIfInBounds d u).getD j undef=a.tmps.getD j undef
  simp[Array.getElem?_setIfInBounds_ne h]
def cnt(o:Option Value):Nat:=match o with|some _=>0|none=>1
def one(i:Nat)(o:Option Value):List Nat:=match o with|some _=>[]|none=>[i]
def rdy(i1 i2 i3 i4 i5:Nat)(o1 o2 o3 o4 o5:Option Value):List Nat:=one i1 o1++(one i2 o2++(one i3 o3++(one i4 o4++one i5 o5)))
theorem zV{i j:Nat}{o:Option Value}(h:j∈one i o):j=i/\o=none:=by
 cases o with
 |none=>exact⟨List.mem_singleton.1 h,rfl⟩
 |some v=>cases h
theorem XP{i1 i2 i3 i4 i5 i:Nat}{o1 o2 o3 o4 o5:Option Value}(h:i∈rdy i1 i2 i3 i4 i5 o1 o2 o3 o4 o5):(i=i1/\o1=none)\/(i=i2/\o2=none)\/(i=i3/\o3=none)\/(i=i4/\o4=none)\/(i=i5/\o5=none):=by
 unfold rdy at h
 rcases List.mem_append.1 h with h|h
 ·exact .inl (zV h)
 rcases List.mem_append.1 h with h|h
 ·exact .inr (.inl (zV h))
 rcases List.mem_append.1 h with h|h
 ·exact .inr (.inr (.inl (zV h)))
 rcases List.mem_append.1 h with h|h
 ·exact .inr (.inr (.inr (.inl (zV h))))
 ·exact .inr (.inr (.inr (.inr (zV h))))
theorem aaq{i1 i2 i3 i4 i5:Nat}{o1 o2 o3 o4 o5:Option Value}(h:0<cnt o1+cnt o2+cnt o3+cnt o4+cnt o5):rdy i1 i2 i3 i4 i5 o1 o2 o3 o4 o5≠[]:=by
 intro e
 have:=congrArg List.length e
 have k:∀i o,(one i o).length=cnt o:=λi o=>by cases o<;>rfl
 unfold rdy at this
 simp only[List.length_append,k,List.length_nil]at this
 omega
section
variable {P : Program} {md : Region.Mode} {ops : Array Oper} {Q : Exit → Act → World → Prop} {S : World → Prop} {i1 i2 i3 i4 i5 : Nat} {d1 d2 d3 d4 d5 : Tmp} {a0 : Act} {l0 : Array Bool} {f : Nat}
def A5(d1 d2 d3 d4 d5:Tmp)(a0:Act)(o1 o2 o3 o4 o5:Option Value):Act:=pO d1 o1 (pO d2 o2 (pO d3 o3 (pO d4 o4 (pO d5 o5 a0))))
def L5(i1 i2 i3 i4 i5:Nat)(l0:Array Bool)(o1 o2 o3 o4 o5:Option Value):Array Bool:=lO i1 o1 (lO i2 o2 (lO i3 o3 (lO i4 o4 (lO i5 o5 l0))))
theorem agS(G:Option Value->Option Value->Option Value->Option Value->Option Value->World->Prop)
  (hd:d1≠d2/\d1≠d3/\d1≠d4/\d1≠d5/\d2≠d3/\d2≠d4/\d2≠d5/\d3≠d4/\d3≠d5/\d4≠d5)
  (hi:i1≠i2/\i1≠i3/\i1≠i4/\i1≠i5/\i2≠i3/\i2≠i4/\i2≠i5/\i3≠i4/\i3≠i5/\i4≠i5)
  (aar:∀o1 o2 o3 o4 o5,0<cnt o1+cnt o2+cnt o3+cnt o4+cnt o5->Region.ready md ops (L5 i1 i2 i3 i4 i5 l0 o1 o2 o3 o4 o5)=rdy i1 i2 i3 i4 i5 o1 o2 o3 o4 o5)
  (h1:∀o2 o3 o4 o5 w,G none o2 o3 o4 o5 w->wpOp P ops Q i1 (λa' w'=>∃v,a'=(A5 d1 d2 d3 d4 d5 a0 none o2 o3 o4 o5).put (some d1) v/\S w'/\G (some v) o2 o3 o4 o5 w') (A5 d1 d2 d3 d4 d5 a0 none o2 o3 o4 o5) w)
  (h2:∀o1 o3 o4 o5 w,G o1 none o3 o4 o5 w->wpOp P ops Q i2 (λa' w'=>∃v,a'=(A5 d1 d2 d3 d4 d5 a0 o1 none o3 o4 o5).put (some d2) v/\S w'/\G o1 (some v) o3 o4 o5 w') (A5 d1 d2 d3 d4 d5 a0 o1 none o3 o4 o5) w)
  (h3:∀o1 o2 o4 o5 w,G o1 o2 none o4 o5 w->wpOp P ops Q i3 (λa' w'=>∃v,a'=(A5 d1 d2 d3 d4 d5 a0 o1 o2 none o4 o5).put (some d3) v/\S w'/\G o1 o2 (some v) o4 o5 w') (A5 d1 d2 d3 d4 d5 a0 o1 o2 none o4 o5) w)
  (h4:∀o1 o2 o3 o5 w,G o1 o2 o3 none o5 w->wpOp P ops Q i4 (λa' w'=>∃v,a'=(A5 d1 d2 d3 d4 d5 a0 o1 o2 o3 none o5).put (some d4) v/\S w'/\G o1 o2 o3 (some v) o5 w') (A5 d1 d2 d3 d4 d5 a0 o1 o2 o3 none o5) w)
  (h5:∀o1 o2 o3 o4 w,G o1 o2 o3 o4 none w->wpOp P ops Q i5 (λa' w'=>∃v,a'=(A5 d1 d2 d3 d4 d5 a0 o1 o2 o3 o4 none).put (some d5) v/\S w'/\G o1 o2 o3 o4 (some v) w') (A5 d1 d2 d3 d4 d5 a0 o1 o2 o3 o4 none) w)
  (hend:∀v1 v2 v3 v4 v5 w,S w->G (some v1) (some v2) (some v3) (some v4) (some v5) w->wpAnyH P md ops Q S f (L5 i1 i2 i3 i4 i5 l0 (some v1) (some v2) (some v3) (some v4) (some v5)) (A5 d1 d2 d3 d4 d5 a0 (some v1) (some v2) (some v3) (some v4) (some v5)) w)
  {w0:World} (hS0:S w0) (hG:G none none none none none w0):wpAnyH P md ops Q S (5+f) l0 a0 w0:=by
 obtain⟨e12,e13,e14,e15,e23,e24,e25,e34,e35,e45⟩:=hd
 obtain⟨j12,j13,j14,j15,j23,j24,j25,j34,j35,j45⟩:=hi
 have key:∀n o1 o2 o3 o4 o5 w,cnt o1+cnt o2+cnt o3+cnt o4+cnt o5=n->S w->G o1 o2 o3 o4 o5 w->wpAnyH P md ops Q S (n+f) (L5 i1 i2 i3 i4 i5 l0 o1 o2 o3 o4 o5) (A5 d1 d2 d3 d4 d5 a0 o1 o2 o3 o4 o5) w:=by
  intro n
  induction n with
  |zero=>
   intro o1 o2 o3 o4 o5 w hc hS hG
   rw[Nat.zero_add]
   cases o1<;>cases o2<;>cases o3<;>cases o4<;>cases o5<;>first|(exfalso;simp[cnt]at hc;done)|exact hend _ _ _ _ _ _ hS hG
  |succ n ih=>
   intro o1 o2 o3 o4 o5 w hc hS hG
   have hrd:=aar o1 o2 o3 o4 o5 (by omega)
   have hne:Region.ready md ops (L5 i1 i2 i3 i4 i5 l0 o1 o2 o3 o4 o5)≠[]:=by rw[hrd];exact aaq (by omega)
   have hr:=λi(hi:i∈Region.ready md ops (L5 i1 i2 i3 i4 i5 l0 o1 o2 o3 o4 o5))=>XP (by rw[hrd]at hi;exact hi)
   rw[show n+1+f=(n+f)+1 by omega]
   refine⟨λh=>absurd h hne,λi hi=> ?_⟩
   rcases hr i hi with⟨hii,rfl⟩|⟨hii,rfl⟩|⟨hii,rfl⟩|⟨hii,rfl⟩|⟨hii,rfl⟩<;>rw[hii]
   ·refine wpOp_mono ?_ (h1 o2 o3 o4 o5 w hG)
    rintro a' w' ⟨v,rfl,hS',hG'⟩
    exact⟨hS',ih (some v) o2 o3 o4 o5 w' (by simp[cnt]at hc⊢;omega) hS' hG'⟩
   ·refine wpOp_mono ?_ (h2 o1 o3 o4 o5 w hG)
    rintro a' w' ⟨v,rfl,hS',hG'⟩
    refine⟨hS',?_⟩
    have:=ih o1 (some v) o3 o4 o5 w' (by simp[cnt]at hc⊢;omega) hS' hG'
    have ea:(A5 d1 d2 d3 d4 d5 a0 o1 none o3 o4 o5).put (some d2) v=A5 d1 d2 d3 d4 d5 a0 o1 (some v) o3 o4 o5:=rO e12 _ _ _
    have el:(L5 i1 i2 i3 i4 i5 l0 o1 none o3 o4 o5).setIfInBounds i2 true=L5 i1 i2 i3 i4 i5 l0 o1 (some v) o3 o4 o5:=rP j12 _ _
    rw[ea,el]
    exact this
   ·refine wpOp_mono ?_ (h3 o1 o2 o4 o5 w hG)
    rintro a' w' ⟨v,rfl,hS',hG'⟩
    refine⟨hS',?_⟩
    have:=ih o1 o2 (some v) o4 o5 w' (by simp[cnt]at hc⊢;omega) hS' hG'
    have ea:(A5 d1 d2 d3 d4 d5 a0 o1 o2 none o4 o5).put (some d3) v=A5 d1 d2 d3 d4 d5 a0 o1 o2 (some v) o4 o5:=(rO e13 _ _ _).trans (congrArg _ (rO e23 _ _ _))
    have el:(L5 i1 i2 i3 i4 i5 l0 o1 o2 none o4 o5).setIfInBounds i3 true=L5 i1 i2 i3 i4 i5 l0 o1 o2 (some v) o4 o5:=(rP j13 _ _).trans (congrArg _ (rP j23 _ _))
    rw[ea,el]
    exact this
   ·refine wpOp_mono ?_ (h4 o1 o2 o3 o5 w hG)
    rintro a' w' ⟨v,rfl,hS',hG'⟩
    refine⟨hS',?_⟩
    have:=ih o1 o2 o3 (some v) o5 w' (by simp[cnt]at hc⊢;omega) hS' hG'
    have ea:(A5 d1 d2 d3 d4 d5 a0 o1 o2 o3 none o5).put (some d4) v=A5 d1 d2 d3 d4 d5 a0 o1 o2 o3 (some v) o5:=(rO e14 _ _ _).trans (congrArg _ ((rO e24 _ _ _).trans (congrArg _ (rO e34 _ _ _))))
    have el:(L5 i1 i2 i3 i4 i5 l0 o1 o2 o3 none o5).setIfInBounds i4 true=L5 i1 i2 i3 i4 i5 l0 o1 o2 o3 (some v) o5:=(rP j14 _ _).trans (congrArg _ ((rP j24 _ _).trans (congrArg _ (rP j34 _ _))))
    rw[ea,el]
    exact this
   ·refine wpOp_mono ?_ (h5 o1 o2 o3 o4 w hG)
    rintro a' w' ⟨v,rfl,hS',hG'⟩
    refine⟨hS',?_⟩
    have:=ih o1 o2 o3 o4 (some v) w' (by simp[cnt]at hc⊢;omega) hS' hG'
    have ea:(A5 d1 d2 d3 d4 d5 a0 o1 o2 o3 o4 none).put (some d5) v=A5 d1 d2 d3 d4 d5 a0 o1 o2 o3 o4 (some v):=(rO e15 _ _ _).trans (congrArg _ ((rO e25 _ _ _).trans (congrArg _ ((rO e35 _ _ _).trans (congrArg _ (rO e45 _ _ _))))))
    have el:(L5 i1 i2 i3 i4 i5 l0 o1 o2 o3 o4 none).setIfInBounds i5 true=L5 i1 i2 i3 i4 i5 l0 o1 o2 o3 o4 (some v):=(rP j15 _ _).trans (congrArg _ ((rP j25 _ _).trans (congrArg _ ((rP j35 _ _).trans (congrArg _ (rP j45 _ _))))))
    rw[ea,el]
    exact this
 exact key 5 none none none none none w0 rfl hS0 hG
end
theorem zW{P:Program}{ops:Array Oper}{Q:Exit->Act->World->Prop}{K:Act->World->Prop}{i:Nat}{o:Oper}{a:Act}{w w':World}{v:Value}(ho:ops[i]? =some o)(hg:o.guard=none)
  (hr:(execOp a.eval o).run P w=.ok (.value v) w') (h:K (a.put o.dst v) w'):wpOp P ops Q i K a w:=by
 refine wpOp_step ho λK' hK=> ?_
 rw[if_pos (by simp[Region.wanted,hg])]
 unfold Oper.wp
 rw[hr]
 exact hK _ _ h
theorem run_make{P:Program}{a:Act}{w w':World}{o:Oper}{T:TypeId}{t:Tmp}{n v:Value}(h:a.eval (.tmp t)=n)(hr:(Instr.makeSlice T n n).run P w=.ok v w')(ho:o.op=.makeSlice T (.tmp t) (.tmp t):=by rfl):(execOp a.eval o).run P w=.ok (.value v) w':=by
 unfold execOp
 simp only[ho,h,Sem.run_bind,hr,Result.andThen_ok,Sem.run_pure]
theorem XQ{P:Program}{ops:Array Oper}{Q:Exit->Act->World->Prop}{K:Act->World->Prop}{i:Nat}{o:Oper}{a:Act}{w:World}{f:FuncId}{args:Array Value}{v:Value}(ho:ops[i]? =some o)(hg:o.guard=none)
  (hr:(execOp a.eval o).run P w=.ok (.enter f args) w) (hc:Calls P f args w λe w'=>e=.returned v/\w=w') (h:K (a.put o.dst v) w):wpOp P ops Q i K a w:=by
 refine wpOp_step ho λK' hK=> ?_
 rw[if_pos (by simp[Region.wanted,hg])]
 unfold Oper.wp
 rw[hr]
 show Calls P f args w _
 refine Calls.mono hc ?_
 rintro e w' ⟨rfl,rfl⟩
 exact hK _ _ h
end Go.Proofs.YtpgjploaliefdaaGreat.five
