/- Wait in company. No conditions. -/
import Derived.Test.YtlncengggmgdgaaGreatG13
import Derived.Conc.WgGenWait
set_option linter.unusedVariables false
set_option linter.unusedSimpArgs false
set_option maxRecDepth 100000
namespace Go.Proofs.YtlncengggmgdgaaGreat.par
open Go Go.Conc Go.RowKit Go.Conc.Lib Go.ConcR.Gen Go.ConcN.Gen
open Go.ConcR (stA smA WgAt KK rd wr mk DC0)
open Go.ConcN (st_flag st_waiters)
section
variable {L : WgLink} {P : Program} {I : World → Prop} {Wg : Nat}
def V4(P:Program)(I:World->Prop)(tW:TypeId)(Wg:Nat)(S:Goroutine->World->Prop)(g:Goroutine)(w:World):Prop:=
 g.status=.running/\(WgAt tW Wg w 0 0->∃g',stepG P true g w=.go g' w #[rd (stA Wg)]/\∃m,wR P true I S m g')
def V3(P:Program)(I:World->Prop)(tW:TypeId)(Wg:Nat)(S:Goroutine->World->Prop)(g:Goroutine)(w:World):Prop:=
 g.status=.running/\g.offers=none/\((∃st,WgAt tW Wg w st 0)->stepG P true g w=.go {g with status:=.blocked} w #[])/\
  (WgAt tW Wg w 0 1->∃g',stepG P true g w=.go g' (w.setCell (smA Wg) (.int .u32 0)) (semEvents (smA Wg))/\∃m,wR P true I S m g')
def V2(P:Program)(I:World->Prop)(tW:TypeId)(Wg vs:Nat)(S A:Goroutine->World->Prop)(g:Goroutine)(w:World):Prop:=
 g.status=.running/\∀v:Nat,v<2147483648->WgAt tW Wg w (v*KK) 0->
  (v=vs->∃g',stepG P true g w=.go g' (w.setCell (stA Wg) (.int .u64 (v*KK+1))) #[rd (stA Wg),wr (stA Wg)]/\∃m,wR P true I S m g')/\
  (v≠vs->∃g',stepG P true g w=.go g' w #[rd (stA Wg)]/\∃m,wR P true I A m g')
def V1(P:Program)(I:World->Prop)(tW:TypeId)(Wg:Nat)(Z:Goroutine->World->Prop)(S2:Nat->Goroutine->World->Prop)(g:Goroutine)(w:World):Prop:=
 g.status=.running/\∀v:Nat,v<2147483648->WgAt tW Wg w (v*KK) 0->
  ∃g',stepG P true g w=.go g' w #[rd (stA Wg)]/\(v=0->∃m,wR P true I Z m g')/\(v≠0->∃m,wR P true I (S2 v) m g')
def ES(L:WgLink)(Wg:Nat)(c:Frame)(cs:List Frame)(g:Goroutine):Prop:=
 ∃T:Array Value,g=G ((base L.wait).at ⟨T,[]⟩ [.code (L7 L),.inLoop (L7 L),.inBlock 0]) (c::cs)/\T.size=84/\T[0]? =some (.pointer (some ⟨Wg,0,none⟩))
abbrev VE(P:Program)(I:World->Prop)(Wg:Nat)(S:Goroutine->World->Prop):Goroutine->World->Prop:=Q3 P I (mk .enable) (Q3 P I (mk (.acquire (stA Wg))) S)
set_option maxHeartbeats 8000000 in
theorem Nw(H:WgLib P L)(hI:∀{w:World},I w->∃st sm,WgAt L.tWg Wg w st sm){b₀:Frame}{a₀:Act}{ops₀:Array Oper}{i₀:Nat}{rest₀:List Nat}{k₀:List Item}{cs:List Frame}(S:Goroutine->World->Prop)
  (hS:∀g w,g=G (b₀.at (a₀.put ((ops₀[i₀]?).bind (·.dst)) (.tuple #[])) (.inRegion ops₀ rest₀::k₀)) cs->S g w) (g:Goroutine) (h:ES L Wg (b₀.at a₀ (.inRegion ops₀ (i₀::rest₀)::k₀)) cs g):
  wR P true I (V1 P I L.tWg Wg (VE P I Wg S) (λvs=>V2 P I L.tWg Wg vs (Q3 P I (mk (.write (smA Wg))) (V3 P I L.tWg Wg (V4 P I L.tWg Wg (VE P I Wg S)))) (λg _=>ES L Wg (b₀.at a₀ (.inRegion ops₀ (i₀::rest₀)::k₀)) cs g))) 30 g:=by
 lib_facts
 obtain⟨T,rfl,hT84,t0⟩:=h
 obtain⟨v0,v1,v2,v3,v4,v5,v6,v7,v8,v9,v10,v11,v12,v13,v14,v15,v16,v17,v18,v19,v20,v21,v22,v23,v24,v25,v26,v27,v28,v29,v30,v31,v32,v33,v34,v35,v36,v37,v38,v39,v40,v41,v42,v43,v44,v45,v46,v47,v48,v49,v50,v51,v52,v53,v54,v55,v56,v57,v58,v59,v60,v61,v62,v63,v64,v65,v66,v67,v68,v69,v70,v71,v72,v73,v74,v75,v76,v77,v78,v79,v80,v81,v82,v83,rfl⟩:=array84 T hT84
 simp only[List.getElem?_toArray,List.getElem?_cons_zero,Option.some.injEq]at t0
 subst t0
 clear hT84
 simp only[L7,body_wait,waitFn,Option.getD_some]
 repeat(first|(with_reducible apply bn)|(with_reducible apply aI)|((with_reducible apply gi_region);simp only[List.size_toArray,List.length_cons,List.length_nil,Nat.reduceAdd,Nat.zero_add,List.range,List.range.loop])|(with_reducible apply aK)|(with_reducible apply bY)|(with_reducible apply aT)|(with_reducible apply gi_loop)|(with_reducible apply bD)|(with_reducible apply dM)|(with_reducible apply bG)|((with_reducible apply aY (t:=false));(focus first|rfl|(simp[Act.eval];done)|(simp[Act.eval];omega));simp only[if_true,if_false,Bool.false_eq_true,↓reduceIte])|((with_reducible apply aY (t:=true));(focus first|rfl|(simp[Act.eval];done)|(simp[Act.eval];omega));simp only[if_true,if_false,Bool.false_eq_true,↓reduceIte])|((with_reducible refine aH (v:= ?_) (o:= ?_) ?_ ?_ ?_ (λ_ _=> ?_) (λ_ _=> ?_) ?_);rotate_left 2;(focus exact rfl);(focus exact rfl);(focus k_ne);(focus (go_simp;(try w_num);first|done|exact rfl));(focus (simp[go_sem, *];done));walk_nrm)|((with_reducible refine bC (o:= ?_) ?_ ?_ ?_);rotate_left;(focus exact rfl);(focus exact rfl);walk_nrm)|((with_reducible apply dH);(focus rfl))|(refine jw rfl rfl (by k_ne) rfl H.f_uLoad (nm_uLoad L) rfl ?_;walk_nrmf uLoadFn))
 refine dw.halt λw₁ h₁=> ?_
 clear h₁
 refine⟨rfl,λv hv hw=> ?_⟩
 rcases Nat.eq_zero_or_pos v with rfl|hvp
 ·replace hw:WgAt L.tWg Wg w₁ 0 0:=by simpa using hw
  refine⟨_,stepG_load_atomic (v:=0) rfl rfl (by k_ne) rfl H.f_loadU64 (x_loadU64_n L) (x_loadU64_b L) (x_loadU64_x L) .u64 (x_loadU64_f L) rfl hw.cellSt,λ_=>⟨60,?_⟩,λh=>absurd rfl h⟩
  clear hw w₁
  walk_nrm
  repeat(first|(with_reducible apply bn)|(with_reducible apply aI)|((with_reducible apply gi_region);simp only[List.size_toArray,List.length_cons,List.length_nil,Nat.reduceAdd,Nat.zero_add,List.range,List.range.loop])|(with_reducible apply aK)|(with_reducible apply bY)|(with_reducible apply aT)|(with_reducible apply gi_loop)|(with_reducible apply bD)|(with_reducible apply dM)|(with_reducible apply bG)|((with_reducible apply aY (t:=false));(focus first|rfl|(simp[Act.eval];done)|(simp[Act.eval];omega));simp only[if_true,if_false,Bool.false_eq_true,↓reduceIte])|((with_reducible apply aY (t:=true));(focus first|rfl|(simp[Act.eval];done)|(simp[Act.eval];omega));simp only[if_true,if_false,Bool.false_eq_true,↓reduceIte])|((with_reducible refine aH (v:= ?_) (o:= ?_) ?_ ?_ ?_ (λ_ _=> ?_) (λ_ _=> ?_) ?_);rotate_left 2;(focus exact rfl);(focus exact rfl);(focus k_ne);(focus (go_simp;(try w_num);first|done|exact rfl));(focus (simp[go_sem, *];done));walk_nrm)|((with_reducible refine bC (o:= ?_) ?_ ?_ ?_);rotate_left;(focus exact rfl);(focus exact rfl);walk_nrm)|((with_reducible apply dH);(focus rfl))|(refine gK rfl rfl H.f_uLoad rfl ?_;walk_nrm))
  refine dw.halt λw₁ h₁=> ?_
  clear h₁
  refine⟨rfl,_,stepG_mark0 .enable (by simp) rfl rfl (by k_ne) rfl H.f_enable (x_enable_n L) (x_enable_b L) (x_enable_x L) (x_enable_f L),12,?_⟩
  clear w₁
  walk_nrm
  repeat(first|(with_reducible apply bn)|(with_reducible apply aI)|((with_reducible apply gi_region);simp only[List.size_toArray,List.length_cons,List.length_nil,Nat.reduceAdd,Nat.zero_add,List.range,List.range.loop])|(with_reducible apply aK)|(with_reducible apply bY)|(with_reducible apply aT)|(with_reducible apply gi_loop)|(with_reducible apply bD)|(with_reducible apply dM)|(with_reducible apply bG)|((with_reducible apply aY (t:=false));(focus first|rfl|(simp[Act.eval];done)|(simp[Act.eval];omega));simp only[if_true,if_false,Bool.false_eq_true,↓reduceIte])|((with_reducible apply aY (t:=true));(focus first|rfl|(simp[Act.eval];done)|(simp[Act.eval];omega));simp only[if_true,if_false,Bool.false_eq_true,↓reduceIte])|((with_reducible refine aH (v:= ?_) (o:= ?_) ?_ ?_ ?_ (λ_ _=> ?_) (λ_ _=> ?_) ?_);rotate_left 2;(focus exact rfl);(focus exact rfl);(focus k_ne);(focus (go_simp;(try w_num);first|done|exact rfl));(focus (simp[go_sem, *];done));walk_nrm)|((with_reducible refine bC (o:= ?_) ?_ ?_ ?_);rotate_left;(focus exact rfl);(focus exact rfl);walk_nrm)|((with_reducible apply dH);(focus rfl))|(refine qg H.underlying_tWgP H.underlying_tUP H.room_tWg (λw hw=>(Cc (hI hw))) rfl rfl (by k_ne) rfl rfl ?_;walk_nrm))
  refine dw.halt λw₁ h₁=> ?_
  clear h₁
  refine⟨rfl,_,stepG_markAt .acquire (by simp) rfl rfl (by k_ne) rfl H.f_acquire (x_acquire_n L) (x_acquire_b L) (x_acquire_x L) (x_acquire_f L) (by simp[Act.eval,stA]),⟨30,?_⟩⟩
  clear w₁
  walk_nrm
  repeat(first|(with_reducible apply bn)|(with_reducible apply aI)|((with_reducible apply gi_region);simp only[List.size_toArray,List.length_cons,List.length_nil,Nat.reduceAdd,Nat.zero_add,List.range,List.range.loop])|(with_reducible apply aK)|(with_reducible apply bY)|(with_reducible apply aT)|(with_reducible apply gi_loop)|(with_reducible apply bD)|(with_reducible apply dM)|(with_reducible apply bG)|((with_reducible apply aY (t:=false));(focus first|rfl|(simp[Act.eval];done)|(simp[Act.eval];omega));simp only[if_true,if_false,Bool.false_eq_true,↓reduceIte])|((with_reducible apply aY (t:=true));(focus first|rfl|(simp[Act.eval];done)|(simp[Act.eval];omega));simp only[if_true,if_false,Bool.false_eq_true,↓reduceIte])|((with_reducible refine aH (v:= ?_) (o:= ?_) ?_ ?_ ?_ (λ_ _=> ?_) (λ_ _=> ?_) ?_);rotate_left 2;(focus exact rfl);(focus exact rfl);(focus k_ne);(focus (go_simp;(try w_num);first|done|exact rfl));(focus (simp[go_sem, *];done));walk_nrm)|((with_reducible refine bC (o:= ?_) ?_ ?_ ?_);rotate_left;(focus exact rfl);(focus exact rfl);walk_nrm)|((with_reducible apply dH);(focus rfl)))
  (refine oL rfl rfl H.f_wait rfl ?_;walk_nrm)
  exact dw.halt λw₁ h₁=>hS _ _ rfl
 ·obtain⟨SS,hSS⟩:∃S:Int,(v:Int)*KK=S:=⟨_,rfl⟩
  have a1:SS/4294967296=(v:Int):=by rw[<-hSS];simp only[KK];omega
  have b1:bits .and .u64 SS 2147483648=0:=by rw[<-hSS];have:=st_flag v 0 (by omega) (by omega);simpa [KK]using this
  have b2:bits .and .u64 SS 2147483647=0:=by rw[<-hSS];have:=st_waiters v 0 (by omega) (by omega);simpa [KK]using this
  have c1:IntKind.i32.wrap (v:Int)=(v:Int):=by rw[IntKind.wrap_i32];omega
  have w1:IntKind.u64.wrap (SS+1)=SS+1:=by rw[IntKind.wrap_u64,<-hSS];simp only[KK];omega
  have q3:decide ((v:Int)<0)=false:=decide_eq_false (by omega)
  have q4:decide (0<(v:Int))=true:=decide_eq_true (by omega)
  have q5:((v:Int)==0)=false:=by simp;omega
  have q6:decide ((v:Int)=0)=false:=decide_eq_false (by omega)
  rw[hSS]at hw
  refine⟨_,stepG_load_atomic (v:=SS) rfl rfl (by k_ne) rfl H.f_loadU64 (x_loadU64_n L) (x_loadU64_b L) (x_loadU64_x L) .u64 (x_loadU64_f L) rfl hw.cellSt,λh0=>absurd h0 (by omega),λ_=>⟨70,?_⟩⟩
  clear hw w₁
  walk_nrm
  repeat(first|(with_reducible apply bn)|(with_reducible apply aI)|((with_reducible apply gi_region);simp only[List.size_toArray,List.length_cons,List.length_nil,Nat.reduceAdd,Nat.zero_add,List.range,List.range.loop])|(with_reducible apply aK)|(with_reducible apply bY)|(with_reducible apply aT)|(with_reducible apply gi_loop)|(with_reducible apply bD)|(with_reducible apply dM)|(with_reducible apply bG)|((with_reducible apply aY (t:=false));(focus first|rfl|(simp[Act.eval];done)|(simp[Act.eval];omega));simp only[if_true,if_false,Bool.false_eq_true,↓reduceIte])|((with_reducible apply aY (t:=true));(focus first|rfl|(simp[Act.eval];done)|(simp[Act.eval];omega));simp only[if_true,if_false,Bool.false_eq_true,↓reduceIte])|((with_reducible refine aH (v:= ?_) (o:= ?_) ?_ ?_ ?_ (λ_ _=> ?_) (λ_ _=> ?_) ?_);rotate_left 2;(focus exact rfl);(focus exact rfl);(focus k_ne);(focus (go_simp;(try simp only[a1,b1,b2,c1,w1,q3,q4,q5,q6]);(try w_num);first|done|exact rfl));(focus (simp[go_sem, *];done));walk_nrm)|((with_reducible refine bC (o:= ?_) ?_ ?_ ?_);rotate_left;(focus exact rfl);(focus exact rfl);walk_nrm)|(refine gK rfl rfl H.f_uLoad rfl ?_;walk_nrm)|(refine jw rfl rfl (by k_ne) rfl H.f_uCas (nm_uCas L) rfl ?_;walk_nrmf uCasFn))
  refine dw.halt λw₁ h₁=> ?_
  clear h₁
  refine⟨rfl,λv' hv' hw=>⟨λe=> ?_,λe=> ?_⟩⟩
  ·subst e
   rw[hSS]at hw⊢
   refine⟨_,(stepG_cas_hit (v:=SS) (n:=SS+1) rfl rfl (by k_ne) rfl H.f_casU64 (x_casU64_n L) (x_casU64_b L) (x_casU64_x L) .u64 (x_casU64_f L) rfl rfl rfl hw.cellSt (hw.thaw 0)).trans (by rfl),80,?_⟩
   clear hw w₁
   walk_nrm
   repeat(first|(with_reducible apply bn)|(with_reducible apply aI)|((with_reducible apply gi_region);simp only[List.size_toArray,List.length_cons,List.length_nil,Nat.reduceAdd,Nat.zero_add,List.range,List.range.loop])|(with_reducible apply aK)|(with_reducible apply bY)|(with_reducible apply aT)|(with_reducible apply gi_loop)|(with_reducible apply bD)|(with_reducible apply dM)|(with_reducible apply bG)|((with_reducible apply aY (t:=false));(focus first|rfl|(simp[Act.eval];done)|(simp[Act.eval];omega));simp only[if_true,if_false,Bool.false_eq_true,↓reduceIte])|((with_reducible apply aY (t:=true));(focus first|rfl|(simp[Act.eval];done)|(simp[Act.eval];omega));simp only[if_true,if_false,Bool.false_eq_true,↓reduceIte])|((with_reducible refine aH (v:= ?_) (o:= ?_) ?_ ?_ ?_ (λ_ _=> ?_) (λ_ _=> ?_) ?_);rotate_left 2;(focus exact rfl);(focus exact rfl);(focus k_ne);(focus (go_simp;(try w_num);first|done|exact rfl));(focus (simp[go_sem, *];done));walk_nrm)|((with_reducible refine bC (o:= ?_) ?_ ?_ ?_);rotate_left;(focus exact rfl);(focus exact rfl);walk_nrm)|((with_reducible apply dH);(focus rfl))|(refine gK rfl rfl H.f_uCas rfl ?_;walk_nrm)|(refine qg H.underlying_tPU32 H.underlying_tUP H.room_tU32 (λw hw=>(JD (hI hw))) rfl rfl (by k_ne) rfl rfl ?_;walk_nrm))
   refine dw.halt λw₁ h₁=> ?_
   clear h₁
   refine⟨rfl,_,stepG_markAt .write (by simp) rfl rfl (by k_ne) rfl H.f_raceWrite (x_raceWrite_n L) (x_raceWrite_b L) (x_raceWrite_x L) (x_raceWrite_f L) (ad:=⟨_,1,none⟩) (by simp[Act.eval]<;>rfl),60,?_⟩
   clear w₁
   walk_nrm
   repeat(first|(with_reducible apply bn)|(with_reducible apply aI)|((with_reducible apply gi_region);simp only[List.size_toArray,List.length_cons,List.length_nil,Nat.reduceAdd,Nat.zero_add,List.range,List.range.loop])|(with_reducible apply aK)|(with_reducible apply bY)|(with_reducible apply aT)|(with_reducible apply gi_loop)|(with_reducible apply bD)|(with_reducible apply dM)|(with_reducible apply bG)|((with_reducible apply aY (t:=false));(focus first|rfl|(simp[Act.eval];done)|(simp[Act.eval];omega));simp only[if_true,if_false,Bool.false_eq_true,↓reduceIte])|((with_reducible apply aY (t:=true));(focus first|rfl|(simp[Act.eval];done)|(simp[Act.eval];omega));simp only[if_true,if_false,Bool.false_eq_true,↓reduceIte])|((with_reducible refine aH (v:= ?_) (o:= ?_) ?_ ?_ ?_ (λ_ _=> ?_) (λ_ _=> ?_) ?_);rotate_left 2;(focus exact rfl);(focus exact rfl);(focus k_ne);(focus (go_simp;(try w_num);first|done|exact rfl));(focus (simp[go_sem, *];done));walk_nrm)|((with_reducible refine bC (o:= ?_) ?_ ?_ ?_);rotate_left;(focus exact rfl);(focus exact rfl);walk_nrm)|((with_reducible apply dH);(focus rfl)))
   refine dw.halt λw₁ h₁=> ?_
   clear h₁
   refine⟨rfl,rfl,λ⟨st,hw⟩=>stepG_semacquire_wait rfl rfl rfl H.f_semacquire (x_semacquire_n L) (x_semacquire_b L) (x_semacquire_x L) (x_semacquire_f L) (by simp[Act.eval,smA]) hw.cellSm,λhf=> ?_⟩
   refine⟨_,(stepG_semacquire (n:=1) rfl rfl (by k_ne) rfl H.f_semacquire (x_semacquire_n L) (x_semacquire_b L) (x_semacquire_x L) (x_semacquire_f L) (by simp[Act.eval,smA]) hf.cellSm (by k_ne) (hf.thaw 1)).trans (by rfl),40,?_⟩
   clear hf w₁
   walk_nrm
   repeat(first|(with_reducible apply bn)|(with_reducible apply aI)|((with_reducible apply gi_region);simp only[List.size_toArray,List.length_cons,List.length_nil,Nat.reduceAdd,Nat.zero_add,List.range,List.range.loop])|(with_reducible apply aK)|(with_reducible apply bY)|(with_reducible apply aT)|(with_reducible apply gi_loop)|(with_reducible apply bD)|(with_reducible apply dM)|(with_reducible apply bG)|((with_reducible apply aY (t:=false));(focus first|rfl|(simp[Act.eval];done)|(simp[Act.eval];omega));simp only[if_true,if_false,Bool.false_eq_true,↓reduceIte])|((with_reducible apply aY (t:=true));(focus first|rfl|(simp[Act.eval];done)|(simp[Act.eval];omega));simp only[if_true,if_false,Bool.false_eq_true,↓reduceIte])|((with_reducible refine aH (v:= ?_) (o:= ?_) ?_ ?_ ?_ (λ_ _=> ?_) (λ_ _=> ?_) ?_);rotate_left 2;(focus exact rfl);(focus exact rfl);(focus k_ne);(focus (go_simp;(try w_num);first|done|exact rfl));(focus (simp[go_sem, *];done));walk_nrm)|((with_reducible refine bC (o:= ?_) ?_ ?_ ?_);rotate_left;(focus exact rfl);(focus exact rfl);walk_nrm)|((with_reducible apply dH);(focus rfl))|(refine jw rfl rfl (by k_ne) rfl H.f_uLoad (nm_uLoad L) rfl ?_;walk_nrmf uLoadFn))
   refine dw.halt λw₁ h₁=> ?_
   clear h₁
   refine⟨rfl,λhw=>⟨_,stepG_load_atomic (v:=0) rfl rfl (by k_ne) rfl H.f_loadU64 (x_loadU64_n L) (x_loadU64_b L) (x_loadU64_x L) .u64 (x_loadU64_f L) rfl hw.cellSt,40,?_⟩⟩
   clear hw w₁
   walk_nrm
   repeat(first|(with_reducible apply bn)|(with_reducible apply aI)|((with_reducible apply gi_region);simp only[List.size_toArray,List.length_cons,List.length_nil,Nat.reduceAdd,Nat.zero_add,List.range,List.range.loop])|(with_reducible apply aK)|(with_reducible apply bY)|(with_reducible apply aT)|(with_reducible apply gi_loop)|(with_reducible apply bD)|(with_reducible apply dM)|(with_reducible apply bG)|((with_reducible apply aY (t:=false));(focus first|rfl|(simp[Act.eval];done)|(simp[Act.eval];omega));simp only[if_true,if_false,Bool.false_eq_true,↓reduceIte])|((with_reducible apply aY (t:=true));(focus first|rfl|(simp[Act.eval];done)|(simp[Act.eval];omega));simp only[if_true,if_false,Bool.false_eq_true,↓reduceIte])|((with_reducible refine aH (v:= ?_) (o:= ?_) ?_ ?_ ?_ (λ_ _=> ?_) (λ_ _=> ?_) ?_);rotate_left 2;(focus exact rfl);(focus exact rfl);(focus k_ne);(focus (go_simp;(try w_num);first|done|exact rfl));(focus (simp[go_sem, *];done));walk_nrm)|((with_reducible refine bC (o:= ?_) ?_ ?_ ?_);rotate_left;(focus exact rfl);(focus exact rfl);walk_nrm)|((with_reducible apply dH);(focus rfl))|(refine gK rfl rfl H.f_uLoad rfl ?_;walk_nrm))
   refine dw.halt λw₁ h₁=> ?_
   clear h₁
   refine⟨rfl,_,stepG_mark0 .enable (by simp) rfl rfl (by k_ne) rfl H.f_enable (x_enable_n L) (x_enable_b L) (x_enable_x L) (x_enable_f L),12,?_⟩
   clear w₁
   walk_nrm
   repeat(first|(with_reducible apply bn)|(with_reducible apply aI)|((with_reducible apply gi_region);simp only[List.size_toArray,List.length_cons,List.length_nil,Nat.reduceAdd,Nat.zero_add,List.range,List.range.loop])|(with_reducible apply aK)|(with_reducible apply bY)|(with_reducible apply aT)|(with_reducible apply gi_loop)|(with_reducible apply bD)|(with_reducible apply dM)|(with_reducible apply bG)|((with_reducible apply aY (t:=false));(focus first|rfl|(simp[Act.eval];done)|(simp[Act.eval];omega));simp only[if_true,if_false,Bool.false_eq_true,↓reduceIte])|((with_reducible apply aY (t:=true));(focus first|rfl|(simp[Act.eval];done)|(simp[Act.eval];omega));simp only[if_true,if_false,Bool.false_eq_true,↓reduceIte])|((with_reducible refine aH (v:= ?_) (o:= ?_) ?_ ?_ ?_ (λ_ _=> ?_) (λ_ _=> ?_) ?_);rotate_left 2;(focus exact rfl);(focus exact rfl);(focus k_ne);(focus (go_simp;(try w_num);first|done|exact rfl));(focus (simp[go_sem, *];done));walk_nrm)|((with_reducible refine bC (o:= ?_) ?_ ?_ ?_);rotate_left;(focus exact rfl);(focus exact rfl);walk_nrm)|((with_reducible apply dH);(focus rfl))|(refine qg H.underlying_tWgP H.underlying_tUP H.room_tWg (λw hw=>(Cc (hI hw))) rfl rfl (by k_ne) rfl rfl ?_;walk_nrm))
   refine dw.halt λw₁ h₁=> ?_
   clear h₁
   refine⟨rfl,_,stepG_markAt .acquire (by simp) rfl rfl (by k_ne) rfl H.f_acquire (x_acquire_n L) (x_acquire_b L) (x_acquire_x L) (x_acquire_f L) (by simp[Act.eval,stA]),⟨30,?_⟩⟩
   clear w₁
   walk_nrm
   repeat(first|(with_reducible apply bn)|(with_reducible apply aI)|((with_reducible apply gi_region);simp only[List.size_toArray,List.length_cons,List.length_nil,Nat.reduceAdd,Nat.zero_add,List.range,List.range.loop])|(with_reducible apply aK)|(with_reducible apply bY)|(with_reducible apply aT)|(with_reducible apply gi_loop)|(with_reducible apply bD)|(with_reducible apply dM)|(with_reducible apply bG)|((with_reducible apply aY (t:=false));(focus first|rfl|(simp[Act.eval];done)|(simp[Act.eval];omega));simp only[if_true,if_false,Bool.false_eq_true,↓reduceIte])|((with_reducible apply aY (t:=true));(focus first|rfl|(simp[Act.eval];done)|(simp[Act.eval];omega));simp only[if_true,if_false,Bool.false_eq_true,↓reduceIte])|((with_reducible refine aH (v:= ?_) (o:= ?_) ?_ ?_ ?_ (λ_ _=> ?_) (λ_ _=> ?_) ?_);rotate_left 2;(focus exact rfl);(focus exact rfl);(focus k_ne);(focus (go_simp;(try w_num);first|done|exact rfl));(focus (simp[go_sem, *];done));walk_nrm)|((with_reducible refine bC (o:= ?_) ?_ ?_ ?_);rotate_left;(focus exact rfl);(focus exact rfl);walk_nrm)|((with_reducible apply dH);(focus rfl)))
   (refine oL rfl rfl H.f_wait rfl ?_;walk_nrm)
   exact dw.halt λw₁ h₁=>hS _ _ rfl
  ·refine⟨_,stepG_cas_miss (v:=(v':Int)*KK) (old:=SS) (n:=SS+1) rfl rfl (by k_ne) rfl H.f_casU64 (x_casU64_n L) (x_casU64_b L) (x_casU64_x L) .u64 (x_casU64_f L) rfl rfl rfl hw.cellSt (hw.thaw 0) (by rw[<-hSS];simp only[KK];omega),30,?_⟩
   clear hw w₁
   walk_nrm
   repeat(first|(with_reducible apply bn)|(with_reducible apply aI)|((with_reducible apply gi_region);simp only[List.size_toArray,List.length_cons,List.length_nil,Nat.reduceAdd,Nat.zero_add,List.range,List.range.loop])|(with_reducible apply aK)|(with_reducible apply aT)|(with_reducible apply dM)|(with_reducible apply bG)|((with_reducible apply aY (t:=false));(focus first|rfl|(simp[Act.eval];done)|(simp[Act.eval];omega));simp only[if_true,if_false,Bool.false_eq_true,↓reduceIte])|((with_reducible refine aH (v:= ?_) (o:= ?_) ?_ ?_ ?_ (λ_ _=> ?_) (λ_ _=> ?_) ?_);rotate_left 2;(focus exact rfl);(focus exact rfl);(focus k_ne);(focus (go_simp;(try w_num);first|done|exact rfl));(focus (simp[go_sem, *];done));walk_nrm)|(refine gK rfl rfl H.f_uCas rfl ?_;walk_nrm))
   apply bD
   refine dw.halt λw₁ h₁=> ?_
   exact⟨_,rfl,by simp,by simp⟩
theorem Ny(H:WgLib P L){b₀:Frame}{a₀:Act}{ops₀:Array Oper}{i₀:Nat}{rest₀:List Nat}{k₀:List Item}{cs:List Frame}:
  wR P true I (Q3 P I (mk .disable) (λg _=>ES L Wg (b₀.at a₀ (.inRegion ops₀ (i₀::rest₀)::k₀)) cs g)) 10 (G ((base L.wait).at ⟨#[.pointer (some ⟨Wg,0,none⟩),undef,undef,undef,undef,undef,undef,undef,undef,undef,undef,undef,undef,undef,undef,undef,undef,undef,undef,undef,undef,undef,undef,undef,undef,undef,undef,undef,undef,undef,undef,undef,undef,undef,undef,undef,undef,undef,undef,undef,undef,undef,undef,undef,undef,undef,undef,undef,undef,undef,undef,undef,undef,undef,undef,undef,undef,undef,undef,undef,undef,undef,undef,undef,undef,undef,undef,undef,undef,undef,undef,undef,undef,undef,undef,undef,undef,undef,undef,undef,undef,undef,undef,undef],[]⟩ [.code (body_wait L)]) (b₀.at a₀ (.inRegion ops₀ (i₀::rest₀)::k₀)::cs)):=by
 lib_facts
 simp only[body_wait,waitFn,Option.getD_some]
 repeat(first|(with_reducible apply bn)|(with_reducible apply aI)|((with_reducible apply gi_region);simp only[List.size_toArray,List.length_cons,List.length_nil,Nat.reduceAdd,Nat.zero_add,List.range,List.range.loop])|(with_reducible apply aK)|(with_reducible apply bY)|(with_reducible apply aT)|(with_reducible apply gi_loop)|(with_reducible apply bD)|(with_reducible apply dM)|(with_reducible apply bG)|((with_reducible apply aY (t:=false));(focus first|rfl|(simp[Act.eval];done)|(simp[Act.eval];omega));simp only[if_true,if_false,Bool.false_eq_true,↓reduceIte])|((with_reducible apply aY (t:=true));(focus first|rfl|(simp[Act.eval];done)|(simp[Act.eval];omega));simp only[if_true,if_false,Bool.false_eq_true,↓reduceIte])|((with_reducible refine aH (v:= ?_) (o:= ?_) ?_ ?_ ?_ (λ_ _=> ?_) (λ_ _=> ?_) ?_);rotate_left 2;(focus exact rfl);(focus exact rfl);(focus k_ne);(focus (go_simp;(try w_num);first|done|exact rfl));(focus (simp[go_sem, *];done));walk_nrm)|((with_reducible refine bC (o:= ?_) ?_ ?_ ?_);rotate_left;(focus exact rfl);(focus exact rfl);walk_nrm)|((with_reducible apply dH);(focus rfl)))
 refine dw.halt λw₁ h₁=> ?_
 clear h₁
 refine⟨rfl,_,stepG_mark0 .disable (by simp) rfl rfl (by k_ne) rfl H.f_disable (x_disable_n L) (x_disable_b L) (x_disable_x L) (x_disable_f L),3,?_⟩
 clear w₁
 walk_nrm
 apply aI
 apply bY
 apply gi_loop
 exact dw.halt λw₂ h₂=>⟨_,rfl,by simp,by simp⟩
end
end Go.Proofs.YtlncengggmgdgaaGreat.par
namespace Go.Proofs.YtlncengggmgdgaaGreat.par
open Go Go.Conc Go.RowKit Go.Conc.Lib Go.ConcR.Gen Go.ConcN.Gen
open Go.ConcR (stA smA WgAt KK rd wr mk DC0)
section
variable {P : Program} {main : Bool} {Env : (Nat → Prop) → World → World → Prop} {Gu : (Nat → Prop) → World → World → Array Event → Prop}
theorem OT.acP{I:World->Prop}{D:World->World->Array Event->Prop}{S:Goroutine->World->Prop}{O0:Nat->Prop}(hrefl:∀O w,Env O w w)(hR:∀O,(∀b,O0 b->O b)->∀w w₁,Env O w w₁->I w->I w₁)(hI:∀w w' es,D w w' es->I w->I w')
  (hst:∀w w' es,D w w' es->∀e∈es,e.loc≠ .mark .disable/\e.loc≠ .mark .enable) (hD:∀(O:Nat->Prop),(∀b,O0 b->O b)->∀w w' es,D w w' es->Gu O w w' es):
  ∀(n:Nat)(g:Goroutine)(w:World)(O:Nat->Prop)(d:Nat),(∀b,O0 b->O b)->I w->Goes P main (λw w₁=>I w->I w₁) D S n g w->OT P main Env Gu (λO' d' g w=>d'=d/\(∀b,O b->O' b)/\I w/\S g w) O d g w:=by
 intro n
 induction n with
 |zero=>exactλg w O d hO hw h=>.stop λw₁ he=>⟨rfl,λ_ h=>h,hR O hO _ _ he hw,h w₁ (hR O hO _ _ he)⟩
 |succ n ih=>
  intro g w O d hO hw h
  rcases h with hs|⟨hr,hst'⟩
  ·exact .stop λw₁ he=>⟨rfl,λ_ h=>h,hR O hO _ _ he hw,hs w₁ (hR O hO _ _ he)⟩
  ·refine OT.mk hr λw₁ he=> ?_
   have h1:=hst' w₁ (hR O hO _ _ he)
   cases hgo:stepG P main g w₁ with
   |go g' w' es=>
    rw[hgo,goes_go]at h1
    obtain⟨h2,h3⟩:=h1
    refine⟨g',w',es,rfl,hD O hO _ _ _ h2,?_⟩
    rw[deafBehind_still (hst _ _ _ h2)]
    have h4:=ih g' w' (grow O w₁ w') d (λb hb=>.inl (hO b hb)) (hI _ _ _ h2 (hR O hO _ _ he hw)) h3
    exact OT.weaken (λO' d' g w⟨a,b,c⟩=>⟨a,λx hx=>b x (.inl hx),c⟩) h4
   |_=>rw[hgo]at h1;exact h1.elim
theorem dw.ot{I:World->Prop}{D:World->World->Array Event->Prop}{S:Goroutine->World->Prop}{O0:Nat->Prop}{n:Nat}{g:Goroutine}(h:dw P main I D S n g)(hrefl:∀O w,Env O w w)(hR:∀O,(∀b,O0 b->O b)->∀w w₁,Env O w w₁->I w->I w₁)(hI:∀w w' es,D w w' es->I w->I w')
  (hst:∀w w' es,D w w' es->∀e∈es,e.loc≠ .mark .disable/\e.loc≠ .mark .enable) (hD:∀(O:Nat->Prop),(∀b,O0 b->O b)->∀w w' es,D w w' es->Gu O w w' es) {w:World} {O:Nat->Prop} {d:Nat} (hO:∀b,O0 b->O b) (hw:I w):
  OT P main Env Gu (λO' d' g w=>d'=d/\(∀b,O b->O' b)/\I w/\S g w) O d g w:=OT.acP hrefl hR hI hst hD n g w O d hO hw (h w hw)
end
theorem dw.mono{P:Program}{main:Bool}{I:World->Prop}{D D':World->World->Array Event->Prop}{S:Goroutine->World->Prop}{n:Nat}{g:Goroutine}(h:dw P main I D S n g)(hD:∀w w' es,D w w' es->D' w w' es):dw P main I D' S n g:=by
 have key:∀(n:Nat)(g:Goroutine)(w:World),Goes P main (λw w₁=>I w->I w₁) D S n g w->Goes P main (λw w₁=>I w->I w₁) D' S n g w:=by
  intro n
  induction n with
  |zero=>exactλg w h=>h
  |succ n ih=>
   intro g w h
   rcases h with h|⟨hr,h⟩
   ·exact .inl h
   ·refine .inr ⟨hr,λw₁ h₁=> ?_⟩
    have:=h w₁ h₁
    revert this
    cases stepG P main g w₁ with
    |go g' w' es=>exactλhx=>⟨hD _ _ _ hx.1,ih _ _ hx.2⟩
    |_=>exactλhx=>hx
 exactλw hw=>key n g w (h w hw)
theorem dw.up{P:Program}{main:Bool}{I:World->Prop}{D:World->World->Array Event->Prop}{S:Goroutine->World->Prop}{n m:Nat}{g:Goroutine}(h:dw P main I D S n g)(hl:n<=m):dw P main I D S m g:=by
 have key:∀(n m:Nat)(g:Goroutine)(w:World),n<=m->Goes P main (λw w₁=>I w->I w₁) D S n g w->Goes P main (λw w₁=>I w->I w₁) D S m g w:=by
  intro n
  induction n with
  |zero=>
   intro m g w _ h
   cases m with
   |zero=>exact h
   |succ m=>exact .inl h
  |succ n ih=>
   intro m g w hl h
   cases m with
   |zero=>omega
   |succ m=>
    rcases h with h|⟨hr,h⟩
    ·exact .inl h
    ·refine .inr ⟨hr,λw₁ h₁=> ?_⟩
     have:=h w₁ h₁
     revert this
     cases stepG P main g w₁ with
     |go g' w' es=>exactλhx=>⟨hx.1,ih m _ _ (by omega) hx.2⟩
     |_=>exactλhx=>hx
 exactλw hw=>key n m g w hl (h w hw)
theorem gi_enter{P:Program}{main:Bool}{I:World->Prop}{D:World->World->Array Event->Prop} [Still D]{S:Goroutine->World->Prop}{n:Nat}{b:Frame}{a:Act}{k:List Item}{cs:List Frame}{ops:Array Oper}{i:Nat}{rest:List Nat}{o:Oper}{f:FuncId}{fn:Func}{args:Array Operand}{ats:Array TypeId}
  (ho:ops[i]? =some o) (hw:Region.wanted o (yielded ops a.tmps)=true) (hk:b.kind≠ .early) (hop:o.op=.call {callee:=.value (.func f),args,argTypes:=ats})
  (hf:P.funcs[f]? =some fn) (hname:(fn.name== "runtime.NumGoroutine")=false) (hb:fn.body.isNone=false)
  (hq:dw P main I D S n (G (Frame.enter P f (args.map a.eval) .normal) (b.at a (.inRegion ops (i::rest)::k)::cs))):dw P main I D S (n+1) (G (b.at a (.inRegion ops (i::rest)::k)) cs):=
 .more rfl (λw _=>by
  rw[stepG_enter ho hw hk (run_call_body hop hf hname hb)]
  have:listed P b.fn a o w= #[]:=by unfold listed;rw[events_call_body hop hf hname hb];exact seen_none P _
  rw[this]) hq
structure DL(Rd:Nat->Prop)(fb:Nat)(w w':World)(es:Array Event):Prop where
 heap:w'.heap=w.heap
 tape:w'.tape=w.tape
 os:w'.os=w.os
 output:w'.output=w.output
 evs:∀e∈es,e.write=false/\∃a,e.loc=.cell a/\(a.block=fb\/Rd a.block)
instance{Rd:Nat->Prop}{fb:Nat}:Still (DL Rd fb):=⟨λw=>⟨rfl,rfl,rfl,rfl,λe he=>absurd he (by simp)⟩⟩
theorem DL.gu{Rd Sh:Nat->Prop}{fb:Nat}{z:Prop}{w w':World}{es:Array Event}(h:DL Rd fb w w' es)(O:Nat->Prop)(hO:O fb):Gn Rd Sh z O w w' es:=
 ⟨h.tape,h.os,h.output,by rw[h.heap];exact Nat.le_refl _,λb _ _=>by rw[h.heap],λe he=>by
  obtain⟨h1,a,h2,h3⟩:=h.evs e he
  rcases h3 with h3|h3
  ·refine .inl ?_
   unfold Il
   rw[h2]
   exact .inl (h3▸hO)
  ·refine .inr (.inl ⟨h1,?_⟩)
   rw[h2]
   exact h3⟩
theorem DL.mute{Rd:Nat->Prop}{fb:Nat}{w w':World}{es:Array Event}(h:DL Rd fb w w' es):∀e∈es,e.loc≠ .mark .disable/\e.loc≠ .mark .enable:=λe he=>by
 obtain⟨_,a,h2,_⟩:=h.evs e he
 rw[h2]
 exact⟨by simp,by simp⟩
section
variable {L : WgLink} {P : Program} {I : World → Prop} {Wg : Nat}
set_option maxHeartbeats 4000000 in
theorem VX(H:WgLib P L)(hI:∀{w:World},I w->∃st sm,WgAt L.tWg Wg w st sm){c:Frame}{cs:List Frame}{qt:Nat}(hcm:c.mode=.returning)(hT:QuitsD P qt 0 (G c cs)):
  dw P false I DC0 (N0 P I Wg (N2 P I L.tWg Wg (N3 P I L.tWg Wg))) 23 (G ((baseD L.done).at ⟨#[.pointer (some ⟨Wg,0,none⟩),undef,undef,undef],[]⟩ [.code (body_done L)]) (c::cs)):=by
 lib_facts
 have hA:= @Zp L P I Wg H hI
 simp only[body_done,body_add,doneFn,addFn,Option.getD_some]at hA⊢
 ((with_reducible apply gi_region);simp only[List.size_toArray,List.length_cons,List.length_nil,Nat.reduceAdd,Nat.zero_add,List.range,List.range.loop])
 ((with_reducible refine aH (v:= ?_) (o:= ?_) ?_ ?_ ?_ (λ_ _=> ?_) (λ_ _=> ?_) ?_);rotate_left 2;(focus exact rfl);(focus exact rfl);(focus k_ne);(focus (go_simp;(try w_num);first|done|exact rfl));(focus (simp[go_sem, *];done));walk_nrm)
 refine jw rfl rfl (by k_ne) rfl H.f_add (nm_add L) rfl ?_
 walk_nrmf addFn
 refine hA (qt:=qt+3) ?_
 (with_reducible apply rG)
 (with_reducible apply wQ)
 exact QuitsD.leaveD rfl rfl H.f_done rfl hcm hT
end
def oM(md:Region.Mode)(ops:Array Oper):Nat->Array Bool->List (List Nat)
 |0,_=>[[]]
 |n+1,listed=>match Region.ready md ops listed with
  |[]=>[[]]
  |r::rs=>(r::rs).flatMap λi=>(oM md ops n (listed.setIfInBounds i true)).map (i::·)
theorem ET(md:Region.Mode)(ops:Array Oper):∀(n t:Nat)(listed:Array Bool)(acc:List Nat),∃l∈oM md ops n listed,Region.linearise.go md ops n t listed acc=acc.reverse++l
 |0,t,listed,acc=>⟨[],by simp[oM],by simp[Region.linearise.go]⟩
 |n+1,t,listed,acc=>by
  simp only[Region.linearise.go,oM]
  change∃l∈_,(match(Region.ready md ops listed)[t%(Region.ready md ops listed).length]? with
   |some i=>Region.linearise.go md ops n (t/(Region.ready md ops listed).length) (listed.setIfInBounds i true) (i::acc)
   |none=>acc.reverse)=_
  cases hr:Region.ready md ops listed with
  |nil=>exact⟨[],by simp,by simp⟩
  |cons r rs=>
   have hlt:t%(r::rs).length<(r::rs).length:=Nat.mod_lt _ (by simp)
   obtain⟨i,hi⟩:∃i,(r::rs)[t%(r::rs).length]? =some i:=⟨_,List.getElem?_eq_getElem hlt⟩
   have hmem:i∈r::rs:=List.mem_of_getElem? hi
   rw[hi]
   obtain⟨l,h1,h2⟩:=ET md ops n (t/(r::rs).length) (listed.setIfInBounds i true) (i::acc)
   exact⟨i::l,List.mem_flatMap.2 ⟨i,hmem,List.mem_map.2 ⟨l,h1,rfl⟩⟩,by simpa using h2⟩
theorem zZ(ops:Array Oper)(t:Nat):Region.schedule true ops t∈oM .any ops ops.size (Array.replicate ops.size false):=by
 unfold Region.schedule
 simp only[Bool.true_or,if_true]
 obtain⟨l,h1,h2⟩:=ET .any ops ops.size t (Array.replicate ops.size false) []
 unfold Region.linearise
 rw[h2]
 simpa using h1
end Go.Proofs.YtlncengggmgdgaaGreat.par
namespace Go.Proofs.YtlncengggmgdgaaGreat.par
open Go Go.Conc Go.RowKit Go.Conc.Lib Go.ConcR.Gen Go.ConcN.Gen
open Go.ConcR (stA smA WgAt KK rd wr mk DC0)
noncomputable def bW:Frame:=baseD 136
noncomputable def wS:Code:=Tryz.f136.body.getD .skip
noncomputable def Ce (Wg fb bl bs wB:Nat):Deferred:={target:=.fn (.func 136) #[.pointer (some ⟨Wg,0,none⟩),.pointer (some ⟨fb,0,none⟩),.pointer (some ⟨bl,0,none⟩),.pointer (some ⟨bs,0,none⟩),.pointer (some ⟨wB,0,none⟩)],args:= #[]}
theorem ae8:Option.any (λx=>x.norace) (Tryz.prog).funcs[bW.fn]? =false:=by kernel_rfl
noncomputable def Ea:Frame:={(default:Frame)with fn:=Tryz.prog.funcs.size,defers:=[],mode:=.panicking [goexitEntry]}
theorem Nz(T:Array Value)(todo:List Item):QuitsD Tryz.prog 2 0 (G {bW.at ⟨T,[]⟩ todo with mode:=.returning} [Ea]):=by
 refine QuitsD.ctl (g':=G Ea []) rfl (λw=> ?_) ?_
 ·simp[G,stepG,unwind,doReturn,results,Frame.at,bW,baseD,Ea,Tryz.func136,Tryz.f136,seen,GStep.after,goexitEntry]
 refine QuitsD.ctl (g':={G Ea []with status:=.finished}) rfl (λw=> ?_) ⟨rfl,rfl⟩
 simp[G,stepG,unwind,Ea,goexitEntry,Frame.catches]
 rfl
theorem NC(Wg fb bl bs wB:Nat)(w:World):stepG Tryz.prog false (born Tryz.prog (Ce Wg fb bl bs wB)) w=
  .go (G (bW.at ⟨#[.pointer (some ⟨Wg,0,none⟩),.pointer (some ⟨fb,0,none⟩),.pointer (some ⟨bl,0,none⟩),.pointer (some ⟨bs,0,none⟩),.pointer (some ⟨wB,0,none⟩),undef,undef,undef,undef,undef,undef,undef,undef,undef,undef,undef,undef,undef,undef,undef,undef],[]⟩ [.code wS]) [Ea]) w #[]:=by
 simp[born,Ce,stepG,unwind,callDeferred,invoke,callFunc,Tryz.func136,Tryz.f136,seen,GStep.after,G,Frame.enter,Frame.at,bW,baseD,Ea,wS]
structure RQ(fb bl bs:Nat)(k:Nat)(ad:Option Addr)(n cap:Nat)(s:ByteArray)(cs:Nat->Int×Int×Int)(b off:Nat)(w:World):Prop where
 first:w.cell? ⟨fb,0,none⟩=some (.int .i64 k)
 l:w.cell? ⟨bl,0,none⟩=some (.slice ad n cap)
 s:w.cell? ⟨bs,0,none⟩=some (.string s)
 el:∀i,i<n->w.cell? ⟨b,off+i*3,none⟩=some (.int .i64 (cs i).1)/\w.cell? ⟨b,off+i*3+1,none⟩=some (.int .i64 (cs i).2.1)/\w.cell? ⟨b,off+i*3+2,none⟩=some (.int .i64 (cs i).2.2)
noncomputable def qE:Code:=match wS with| .seq _ (.seq _ (.block _ (.loop c)))=>c|_=>.skip
def AtHead(Wg fb bl bs wB:Nat)(i:Int)(g:Goroutine):Prop:=
 ∃x6 x7 x8 x9 x10 x11 x12 kR x14 x15 x16 x17 x18 x19 x20,g=G (bW.at ⟨#[.pointer (some ⟨Wg,0,none⟩),.pointer (some ⟨fb,0,none⟩),.pointer (some ⟨bl,0,none⟩),.pointer (some ⟨bs,0,none⟩),.pointer (some ⟨wB,0,none⟩),.int .i64 i,x6,x7,x8,x9,x10,x11,x12,kR,x14,x15,x16,x17,x18,x19,x20],[dcall 137 #[.pointer (some ⟨Wg,0,none⟩)]]⟩ [.code qE,.inLoop qE,.inBlock 0]) [Ea]
section
variable {A : gW} {fb bl bs k n cap b off : Nat} {ad : Option Addr} {s : ByteArray} {cs : Nat → Int × Int × Int} {I : World → Prop}
theorem ND(hI:∀w,I w->RQ fb bl bs k ad n cap s cs b off w)(hRd:∀b,b=bl\/b=bs->A.Rd b)(Wg wB:Nat):dw Tryz.prog false I (DL A.Rd fb) (λg _=>AtHead Wg fb bl bs wB k g) 15 (born Tryz.prog (Ce Wg fb bl bs wB)):=by
 refine dw.more rfl (λw _=>NC Wg fb bl bs wB w) ?_
 simp only[wS,Tryz.f136,Option.getD_some]
 (with_reducible apply bn)
 ((with_reducible apply gi_region);simp only[List.size_toArray,List.length_cons,List.length_nil,Nat.reduceAdd,Nat.zero_add,List.range,List.range.loop])
 (refine Cb rfl rfl (by k_ne) rfl ?_;walk_nrm)
 (with_reducible apply aI)
 (with_reducible apply bn)
 ((with_reducible apply gi_region);simp only[List.size_toArray,List.length_cons,List.length_nil,Nat.reduceAdd,Nat.zero_add,List.range,List.range.loop])
 ((with_reducible refine sZ (v:= ?_) (o:= ?_) ?_ ?_ ?_ (λw hw=> ?_) (λw hw=> ?_) ?_);rotate_left 2;(focus exact rfl);(focus exact rfl);(focus k_ne);(focus (have hc1:=(hI w hw).first;have hc2:=(hI w hw).l;have hc3:=(hI w hw).s;go_simp;first|done|exact rfl));(focus (have hc1:=(hI w hw).first;have hc2:=(hI w hw).l;have hc3:=(hI w hw).s;refine⟨rfl,rfl,rfl,rfl,λe he=> ?_⟩;simp[go_sem,seen, *]at he;obtain⟨_,rfl⟩:=he;exact⟨rfl,_,rfl,by simp[*]⟩));walk_nrm)
 ((with_reducible refine aH (v:= ?_) (o:= ?_) ?_ ?_ ?_ (λ_ _=> ?_) (λ_ _=> ?_) ?_);rotate_left 2;(focus exact rfl);(focus exact rfl);(focus k_ne);(focus (go_simp;(try w_num);first|done|exact rfl));(focus (simp[go_sem, *];done));walk_nrm)
 (with_reducible apply aI)
 apply bY
 apply gi_loop
 exact dw.halt λw h=>⟨_,_,_,_,_,_,_,_,_,_,_,_,_,_,_,rfl⟩
theorem VY(hI:∀w,I w->RQ fb bl bs k ad n cap s cs b off w)(hIw:∀{w:World},I w->∃st sm,WgAt link.tWg A.Wg w st sm)(hRd:∀b,b=bl\/b=bs->A.Rd b)(wB:Nat){i:Nat}(hi:n<=i){g:Goroutine}(hg:AtHead A.Wg fb bl bs wB (i:Int) g):
  dw Tryz.prog false I (DL A.Rd fb) (N0 Tryz.prog I A.Wg (N2 Tryz.prog I link.tWg A.Wg (N3 Tryz.prog I link.tWg A.Wg))) 40 g:=by
 obtain⟨x6,x7,x8,x9,x10,x11,x12,kR,x14,x15,x16,x17,x18,x19,x20,rfl⟩:=hg
 simp only[qE,wS,Tryz.f136,Option.getD_some]
 have q0:decide ((i:Int)<(n:Int))=false:=decide_eq_false (by omega)
 (with_reducible apply bn)
 (with_reducible apply bn)
 ((with_reducible apply gi_region);simp only[List.size_toArray,List.length_cons,List.length_nil,Nat.reduceAdd,Nat.zero_add,List.range,List.range.loop])
 ((with_reducible refine aH (v:= ?_) (o:= ?_) ?_ ?_ ?_ (λ_ _=> ?_) (λ_ _=> ?_) ?_);rotate_left 2;(focus exact rfl);(focus exact rfl);(focus k_ne);(focus (go_simp;(try simp only[q0]);(try w_num);first|done|exact rfl));(focus (simp[go_sem, *];done));walk_nrm)
 ((with_reducible refine sZ (v:= ?_) (o:= ?_) ?_ ?_ ?_ (λw hw=> ?_) (λw hw=> ?_) ?_);rotate_left 2;(focus exact rfl);(focus exact rfl);(focus k_ne);(focus (have hc1:=(hI w hw).first;have hc2:=(hI w hw).l;have hc3:=(hI w hw).s;go_simp;first|done|exact rfl));(focus (have hc1:=(hI w hw).first;have hc2:=(hI w hw).l;have hc3:=(hI w hw).s;refine⟨rfl,rfl,rfl,rfl,λe he=> ?_⟩;simp[go_sem,seen, *]at he;obtain⟨_,rfl⟩:=he;exact⟨rfl,_,rfl,by simp[*]⟩));walk_nrm)
 ((with_reducible refine aH (v:= ?_) (o:= ?_) ?_ ?_ ?_ (λ_ _=> ?_) (λ_ _=> ?_) ?_);rotate_left 2;(focus exact rfl);(focus exact rfl);(focus k_ne);(focus (go_simp;(try simp only[q0]);(try w_num);first|done|exact rfl));(focus (simp[go_sem, *];done));walk_nrm)
 ((with_reducible refine aH (v:= ?_) (o:= ?_) ?_ ?_ ?_ (λ_ _=> ?_) (λ_ _=> ?_) ?_);rotate_left 2;(focus exact rfl);(focus exact rfl);(focus k_ne);(focus (go_simp;(try simp only[q0]);(try w_num);first|done|exact rfl));(focus (simp[go_sem, *];done));walk_nrm)
 (with_reducible apply aI)
 ((with_reducible apply aY (t:=false));(focus first|rfl|(simp[Act.eval];done)|(simp[Act.eval];omega));simp only[if_true,if_false,Bool.false_eq_true,↓reduceIte])
 ((with_reducible apply dH);(focus rfl))
 (with_reducible apply bG)
 refine dw.more rfl (λw _=>stepG_unwind_enter rfl Tryz.func137 (nm_done link) rfl) ?_
 walk_nrmf Tryz.f137
 have hD:= @VX link Tryz.prog I A.Wg wgLib hIw
 simp only[body_done,doneFn,Option.getD_some]at hD
 exact((hD (qt:=2) rfl (Nz _ _)).mono λw w' es h=>by obtain⟨rfl,rfl⟩:=h;exact Still.still _).up (by omega)
noncomputable def ops4:Array Oper:=match qE with| .seq _ (.seq (.block _ (.seq (.region _ ops _) _)) _)=>ops|_=> #[]
noncomputable def JE:Code:=match qE with| .seq _ (.seq (.block _ (.seq _ c)) _)=>c|_=>.skip
noncomputable def JF:Code:=match qE with| .seq _ (.seq _ c)=>c|_=>.skip
def AtCall(Wg fb bl bs wB:Nat)(i:Nat)(c:Int×Int×Int)(s:ByteArray)(g:Goroutine):Prop:=
 ∃x6 x7 x8 x9 x10 x11 x12 kR x14 x15 x16 x17 x18 x19 x20,g=G (Frame.enter Tryz.prog 138 #[.agg #[.int .i64 c.1,.int .i64 c.2.1,.int .i64 c.2.2],.string s] .normal)
  [bW.at ⟨#[.pointer (some ⟨Wg,0,none⟩),.pointer (some ⟨fb,0,none⟩),.pointer (some ⟨bl,0,none⟩),.pointer (some ⟨bs,0,none⟩),.pointer (some ⟨wB,0,none⟩),.int .i64 i,x6,x7,x8,x9,x10,x11,x12,kR,x14,x15,x16,x17,x18,x19,x20],[dcall 137 #[.pointer (some ⟨Wg,0,none⟩)]]⟩ [.inRegion ops4 [5,6],.code JE,.inBlock 1,.code JF,.inLoop qE,.inBlock 0],Ea]
theorem Zq:oM .any ops4 ops4.size (Array.replicate ops4.size false)=[[0,1,2,3,4,5,6],[0,1,2,4,3,5,6],[0,1,4,2,3,5,6],[0,4,1,2,3,5,6],[1,0,2,3,4,5,6],[1,0,2,4,3,5,6],[1,0,4,2,3,5,6],[1,4,0,2,3,5,6],[4,0,1,2,3,5,6],[4,1,0,2,3,5,6]]:=by kernel_rfl
theorem mixed:(Tryz.prog:Program).follows .mixedOrders=true:=by kernel_rfl
set_option maxHeartbeats 4000000 in
theorem RS(hI:∀w,I w->RQ fb bl bs k ad n cap s cs b off w)(hRd:∀b,b=bl\/b=bs->A.Rd b)(had:0<n->ad=some ⟨b,off,none⟩/\A.Rd b)(hcs:n<4611686018427387904)(afa:∀w:World,I w->I {w with drawn:=w.drawn+1})(Wg wB:Nat){i:Nat}(hi:i<n){g:Goroutine}(hg:AtHead Wg fb bl bs wB (i:Int) g):
  dw Tryz.prog false I (DL A.Rd fb) (λg _=>AtCall Wg fb bl bs wB i (cs i) s g) 40 g:=by
 obtain⟨x6,x7,x8,x9,x10,x11,x12,kR,x14,x15,x16,x17,x18,x19,x20,rfl⟩:=hg
 have q0:decide ((i:Int)<(n:Int))=true:=decide_eq_true (by omega)
 obtain⟨rfl,hRb⟩:=had (by omega)
 simp only[qE,wS,Tryz.f136,Option.getD_some,AtCall,ops4,JE,JF]
 (with_reducible apply bn)
 (with_reducible apply bn)
 ((with_reducible apply gi_region);simp only[List.size_toArray,List.length_cons,List.length_nil,Nat.reduceAdd,Nat.zero_add,List.range,List.range.loop])
 ((with_reducible refine aH (v:= ?_) (o:= ?_) ?_ ?_ ?_ (λ_ _=> ?_) (λ_ _=> ?_) ?_);rotate_left 2;(focus exact rfl);(focus exact rfl);(focus k_ne);(focus (go_simp;(try simp only[q0]);(try w_num);first|done|exact rfl));(focus (simp[go_sem, *];done));walk_nrm)
 ((with_reducible refine sZ (v:= ?_) (o:= ?_) ?_ ?_ ?_ (λw hw=> ?_) (λw hw=> ?_) ?_);rotate_left 2;(focus exact rfl);(focus exact rfl);(focus k_ne);(focus (have hc1:=(hI w hw).first;have hc2:=(hI w hw).l;have hc3:=(hI w hw).s;go_simp;first|done|exact rfl));(focus (have hc1:=(hI w hw).first;have hc2:=(hI w hw).l;have hc3:=(hI w hw).s;refine⟨rfl,rfl,rfl,rfl,λe he=> ?_⟩;simp[go_sem,seen, *]at he;obtain⟨_,rfl⟩:=he;exact⟨rfl,_,rfl,by simp[*]⟩));walk_nrm)
 ((with_reducible refine aH (v:= ?_) (o:= ?_) ?_ ?_ ?_ (λ_ _=> ?_) (λ_ _=> ?_) ?_);rotate_left 2;(focus exact rfl);(focus exact rfl);(focus k_ne);(focus (go_simp;(try simp only[q0]);(try w_num);first|done|exact rfl));(focus (simp[go_sem, *];done));walk_nrm)
 ((with_reducible refine aH (v:= ?_) (o:= ?_) ?_ ?_ ?_ (λ_ _=> ?_) (λ_ _=> ?_) ?_);rotate_left 2;(focus exact rfl);(focus exact rfl);(focus k_ne);(focus (go_simp;(try simp only[q0]);(try w_num);first|done|exact rfl));(focus (simp[go_sem, *];done));walk_nrm)
 (with_reducible apply aI)
 ((with_reducible apply aY (t:=true));(focus first|rfl|(simp[Act.eval];done)|(simp[Act.eval];omega));simp only[if_true,if_false,Bool.false_eq_true,↓reduceIte])
 (with_reducible apply aK)
 (with_reducible apply bn)
 (with_reducible apply bY)
 (with_reducible apply bn)
 refine Zo (λw=>⟨rfl,rfl,rfl,rfl,λe he=>absurd he (by simp)⟩) afa (λt=> ?_)
 rw[mixed]
 have hm:=Zq▸zZ ops4 t
 simp only[ops4,qE,wS,Tryz.f136,Option.getD_some]at hm
 generalize Region.schedule _ _ t=l at hm⊢
 simp only[List.mem_cons,List.not_mem_nil,or_false]at hm
 rcases hm with rfl|rfl|rfl|rfl|rfl|rfl|rfl|rfl|rfl|rfl
 all_goals (repeat(first|((with_reducible refine aH (v:= ?_) (o:= ?_) ?_ ?_ ?_ (λ_ _=> ?_) (λ_ _=> ?_) ?_);rotate_left 2;(focus exact rfl);(focus exact rfl);(focus k_ne);(focus (go_simp;(try w_num);first|done|exact rfl));(focus (simp[go_sem, *];done));walk_nrm)|((with_reducible refine sZ (v:= ?_) (o:= ?_) ?_ ?_ ?_ (λw hw=> ?_) (λw hw=> ?_) ?_);rotate_left 2;(focus exact rfl);(focus exact rfl);(focus k_ne);(focus (have hc1:=(hI w hw).first;have hc2:=(hI w hw).l;have hc3:=(hI w hw).s;go_simp;first|done|exact rfl));(focus (have hc1:=(hI w hw).first;have hc2:=(hI w hw).l;have hc3:=(hI w hw).s;refine⟨rfl,rfl,rfl,rfl,λe he=> ?_⟩;simp[go_sem,seen, *]at he;obtain⟨_,rfl⟩:=he;exact⟨rfl,_,rfl,by simp[*]⟩));walk_nrm)|((with_reducible refine sZ (v:= ?_) (o:= ?_) ?_ ?_ ?_ (λw hw=> ?_) (λw hw=> ?_) ?_);rotate_left 2;(focus exact rfl);(focus exact rfl);(focus k_ne);(focus (obtain⟨hc4,hc5,hc6⟩:=(hI w hw).el i hi;go_simp;first|done|exact rfl));(focus (obtain⟨hc4,hc5,hc6⟩:=(hI w hw).el i hi;refine⟨rfl,rfl,rfl,rfl,λe he=> ?_⟩;have hln:=ae8;simp[go_sem,seen, *]at he;obtain(rfl|rfl|rfl):=he<;>exact⟨rfl,_,rfl,by simp[*]⟩));walk_nrm)))
 all_goals
  refine gi_enter rfl rfl (by k_ne) rfl Tryz.func138 (by kernel_rfl) (by kernel_rfl) (dw.halt λw h=> ?_)
  walk_nrm
  exact⟨_,_,_,_,_,_,_,_,_,_,_,_,_,_,_,rfl⟩
def yB(Wg fb bl bs wB:Nat)(i:Nat)(g:Bool)(gr:Goroutine):Prop:=
 ∃x6 x7 x8 x9 x10 x11 x12 kR x14 x15 x16 x17 x19 x20,gr=G (bW.at ⟨#[.pointer (some ⟨Wg,0,none⟩),.pointer (some ⟨fb,0,none⟩),.pointer (some ⟨bl,0,none⟩),.pointer (some ⟨bs,0,none⟩),.pointer (some ⟨wB,0,none⟩),.int .i64 i,x6,x7,x8,x9,x10,x11,x12,kR,x14,x15,x16,x17,.bool g,x19,x20],[dcall 137 #[.pointer (some ⟨Wg,0,none⟩)]]⟩ [.inRegion ops4 [6],.code JE,.inBlock 1,.code JF,.inLoop qE,.inBlock 0]) [Ea]
theorem RU(hI:∀w,I w->RQ fb bl bs k ad n cap s cs b off w)(Wg wB:Nat){i:Nat}(hi:i<4611686018427387904){g:Goroutine}(hg:yB Wg fb bl bs wB i true g):
  dw Tryz.prog false I (DL A.Rd fb) (λg _=>AtHead Wg fb bl bs wB ((i+4:Nat):Int) g) 40 g:=by
 obtain⟨x6,x7,x8,x9,x10,x11,x12,kR,x14,x15,x16,x17,x19,x20,rfl⟩:=hg
 simp only[qE,wS,Tryz.f136,Option.getD_some,ops4,JE,JF,AtHead]
 have q0:IntKind.i64.wrap ((i:Int)+4)=((i+4:Nat):Int):=by rw[IntKind.wrap_i64];omega
 ((with_reducible refine aH (v:= ?_) (o:= ?_) ?_ ?_ ?_ (λ_ _=> ?_) (λ_ _=> ?_) ?_);rotate_left 2;(focus exact rfl);(focus exact rfl);(focus k_ne);(focus (go_simp;(try simp only[q0]);(try w_num);first|done|exact rfl));(focus (simp[go_sem, *];done));walk_nrm)
 (with_reducible apply aI)
 ((with_reducible apply aY (t:=false));(focus first|rfl|(simp[Act.eval];done)|(simp[Act.eval];omega));simp only[if_true,if_false,Bool.false_eq_true,↓reduceIte])
 (with_reducible apply aK)
 (with_reducible apply aT)
 ((with_reducible apply gi_region);simp only[List.size_toArray,List.length_cons,List.length_nil,Nat.reduceAdd,Nat.zero_add,List.range,List.range.loop])
 ((with_reducible refine aH (v:= ?_) (o:= ?_) ?_ ?_ ?_ (λ_ _=> ?_) (λ_ _=> ?_) ?_);rotate_left 2;(focus exact rfl);(focus exact rfl);(focus k_ne);(focus (go_simp;(try simp only[q0]);(try w_num);first|done|exact rfl));(focus (simp[go_sem, *];done));walk_nrm)
 ((with_reducible refine aH (v:= ?_) (o:= ?_) ?_ ?_ ?_ (λ_ _=> ?_) (λ_ _=> ?_) ?_);rotate_left 2;(focus exact rfl);(focus exact rfl);(focus k_ne);(focus (go_simp;(try simp only[q0]);(try w_num);first|done|exact rfl));(focus (simp[go_sem, *];done));walk_nrm)
 ((with_reducible refine aH (v:= ?_) (o:= ?_) ?_ ?_ ?_ (λ_ _=> ?_) (λ_ _=> ?_) ?_);rotate_left 2;(focus exact rfl);(focus exact rfl);(focus k_ne);(focus (go_simp;(try simp only[q0]);(try w_num);first|done|exact rfl));(focus (simp[go_sem, *];done));walk_nrm)
 (with_reducible apply aI)
 apply bD
 exact dw.halt λw h=>⟨_,_,_,_,_,_,_,_,_,_,_,_,_,_,_,rfl⟩
theorem VZ:Extern.findNext Tryz.f165=none:=by rfl
theorem V5:Extern.find Tryz.f165=some (Extern.Atomic.update (Op.intArith .add) .i64 true):=by rfl
def afb(P:Program)(I:World->Prop)(D:World->World->Array Event->Prop)(wB:Nat)(S:Goroutine->World->Prop)(g:Goroutine)(w:World):Prop:=
 g.status=.running/\∀v:Int,0<=v->v<9223372036854775807->w.cell? ⟨wB,0,none⟩=some (.int .i64 v)->w.frozen? ⟨wB,0,none⟩=false->
  ∃g',stepG P false g w=.go g' (w.setCell ⟨wB,0,none⟩ (.int .i64 (v+1))) #[rd ⟨wB,0,none⟩,wr ⟨wB,0,none⟩]/\∃m,dw P false I D S m g'
theorem V6(hI:∀w,I w->RQ fb bl bs k ad n cap s cs b off w)(Wg wB:Nat){i:Nat}(hi:i<4611686018427387904){g:Goroutine}(hg:yB Wg fb bl bs wB i false g):
  dw Tryz.prog false I (DL A.Rd fb) (afb Tryz.prog I (DL A.Rd fb) wB (λg _=>AtHead Wg fb bl bs wB ((i+4:Nat):Int) g)) 40 g:=by
 obtain⟨x6,x7,x8,x9,x10,x11,x12,kR,x14,x15,x16,x17,x19,x20,rfl⟩:=hg
 simp only[qE,wS,Tryz.f136,Option.getD_some,ops4,JE,JF,AtHead]
 have q0:IntKind.i64.wrap ((i:Int)+4)=((i+4:Nat):Int):=by rw[IntKind.wrap_i64];omega
 ((with_reducible refine aH (v:= ?_) (o:= ?_) ?_ ?_ ?_ (λ_ _=> ?_) (λ_ _=> ?_) ?_);rotate_left 2;(focus exact rfl);(focus exact rfl);(focus k_ne);(focus (go_simp;(try simp only[q0]);(try w_num);first|done|exact rfl));(focus (simp[go_sem, *];done));walk_nrm)
 (with_reducible apply aI)
 ((with_reducible apply aY (t:=true));(focus first|rfl|(simp[Act.eval];done)|(simp[Act.eval];omega));simp only[if_true,if_false,Bool.false_eq_true,↓reduceIte])
 ((with_reducible apply gi_region);simp only[List.size_toArray,List.length_cons,List.length_nil,Nat.reduceAdd,Nat.zero_add,List.range,List.range.loop])
 (refine jw rfl rfl (by k_ne) rfl Tryz.func139 (by kernel_rfl) rfl ?_;walk_nrmf Tryz.f139)
 (with_reducible apply bn)
 ((with_reducible apply gi_region);simp only[List.size_toArray,List.length_cons,List.length_nil,Nat.reduceAdd,Nat.zero_add,List.range,List.range.loop])
 ((with_reducible refine aH (v:= ?_) (o:= ?_) ?_ ?_ ?_ (λ_ _=> ?_) (λ_ _=> ?_) ?_);rotate_left 2;(focus exact rfl);(focus exact rfl);(focus k_ne);(focus (go_simp;(try simp only[q0]);(try w_num);first|done|exact rfl));(focus (simp[go_sem, *];done));walk_nrm)
 (with_reducible apply aI)
 (with_reducible apply bn)
 ((with_reducible apply gi_region);simp only[List.size_toArray,List.length_cons,List.length_nil,Nat.reduceAdd,Nat.zero_add,List.range,List.range.loop])
 ((with_reducible refine aH (v:= ?_) (o:= ?_) ?_ ?_ ?_ (λ_ _=> ?_) (λ_ _=> ?_) ?_);rotate_left 2;(focus exact rfl);(focus exact rfl);(focus k_ne);(focus (go_simp;(try simp only[q0]);(try w_num);first|done|exact rfl));(focus (simp[go_sem, *];done));walk_nrm)
 ((with_reducible refine aH (v:= ?_) (o:= ?_) ?_ ?_ ?_ (λ_ _=> ?_) (λ_ _=> ?_) ?_);rotate_left 2;(focus exact rfl);(focus exact rfl);(focus k_ne);(focus (go_simp;(try simp only[q0]);(try w_num);first|done|exact rfl));(focus (simp[go_sem, *];done));walk_nrm)
 ((with_reducible refine aH (v:= ?_) (o:= ?_) ?_ ?_ ?_ (λ_ _=> ?_) (λ_ _=> ?_) ?_);rotate_left 2;(focus exact rfl);(focus exact rfl);(focus k_ne);(focus (go_simp;(try simp only[q0]);(try w_num);first|done|exact rfl));(focus (simp[go_sem, *];done));walk_nrm)
 ((with_reducible refine aH (v:= ?_) (o:= ?_) ?_ ?_ ?_ (λ_ _=> ?_) (λ_ _=> ?_) ?_);rotate_left 2;(focus exact rfl);(focus exact rfl);(focus k_ne);(focus (go_simp;(try simp only[q0]);(try w_num);first|done|exact rfl));(focus (simp[go_sem, *];done));walk_nrm)
 refine dw.halt λw h=>⟨rfl,λv h0 hv hc hz=> ?_⟩
 have e1:IntKind.i64.wrap (v+1)=v+1:=by rw[IntKind.wrap_i64];omega
 refine⟨_,(stepG_add_atomic rfl rfl (by k_ne) rfl Tryz.func165 (by kernel_rfl) (by kernel_rfl) VZ .i64 V5 rfl rfl hc hz).trans (by rw[e1];rfl),60,?_⟩
 clear hc hz e1 h0 hv h w
 walk_nrm
 ((with_reducible refine aH (v:= ?_) (o:= ?_) ?_ ?_ ?_ (λ_ _=> ?_) (λ_ _=> ?_) ?_);rotate_left 2;(focus exact rfl);(focus exact rfl);(focus k_ne);(focus (go_simp;(try simp only[q0]);(try w_num);first|done|exact rfl));(focus (simp[go_sem, *];done));walk_nrm)
 (with_reducible apply aI)
 (with_reducible apply dM)
 (refine gK rfl rfl Tryz.func139 rfl ?_;walk_nrm)
 (with_reducible apply aI)
 (with_reducible apply aT)
 ((with_reducible apply gi_region);simp only[List.size_toArray,List.length_cons,List.length_nil,Nat.reduceAdd,Nat.zero_add,List.range,List.range.loop])
 ((with_reducible refine aH (v:= ?_) (o:= ?_) ?_ ?_ ?_ (λ_ _=> ?_) (λ_ _=> ?_) ?_);rotate_left 2;(focus exact rfl);(focus exact rfl);(focus k_ne);(focus (go_simp;(try simp only[q0]);(try w_num);first|done|exact rfl));(focus (simp[go_sem, *];done));walk_nrm)
 ((with_reducible refine aH (v:= ?_) (o:= ?_) ?_ ?_ ?_ (λ_ _=> ?_) (λ_ _=> ?_) ?_);rotate_left 2;(focus exact rfl);(focus exact rfl);(focus k_ne);(focus (go_simp;(try simp only[q0]);(try w_num);first|done|exact rfl));(focus (simp[go_sem, *];done));walk_nrm)
 ((with_reducible refine aH (v:= ?_) (o:= ?_) ?_ ?_ ?_ (λ_ _=> ?_) (λ_ _=> ?_) ?_);rotate_left 2;(focus exact rfl);(focus exact rfl);(focus k_ne);(focus (go_simp;(try simp only[q0]);(try w_num);first|done|exact rfl));(focus (simp[go_sem, *];done));walk_nrm)
 (with_reducible apply aI)
 apply bD
 exact dw.halt λw h=>⟨_,_,_,_,_,_,_,_,_,_,_,_,_,_,_,rfl⟩
end
end Go.Proofs.YtlncengggmgdgaaGreat.par
