/- Part 9 of what the proofs stand on: lemmas on worlds, on goroutines, contracts of functions. No conditions. -/
import Derived.Test.YtgfgoflhmikalaaM08
namespace Go.Proofs.Ytgfgoflhmikalaa.par
open Go Go.Conc
set_option linter.unusedVariables false
set_option linter.unusedSimpArgs false
/-- What the two steps come to: the lone one as a function of its world. -/
inductive StepOut (T : Tables) (W0 : World) (Sp : FuncId → Prop) (P' P : Program) (tl tail : List Frame) (σ : Nat → Nat) (D : Nat → Prop) (u w : World) (L : World → GStep) : GStep → Prop
  | go {fr1' fr1 : Frame} {cs1' cs1 : List Frame} {u1 w1 : World} {es' es : Array Event} {σ1 : Nat → Nat} {D1 : Nat → Prop} (hL : ∀ τ, Agree τ u.tape u.drawn u1.drawn → L (tp u τ) = .go (G fr1' (cs1' ++ tl)) (tp u1 τ) es')
      (hf : FrR σ1 D1 T Sp P'.funcs P.funcs fr1' fr1) (hc : LR (FrR σ1 D1 T Sp P'.funcs P.funcs) cs1' cs1) (hm : Moved T W0 σ D u w σ1 D1 u1 w1 es) :
      StepOut T W0 Sp P' P tl tail σ D u w L (.go (G fr1 (cs1 ++ tail)) w1 es)
  | special {f : FuncId} (hs : Sp f) (hk : Both P'.funcs P.funcs f) {a a' : Array Value} {kind : CallKind} (hkd : kind = .normal ∨ kind = .deferred) {fr1' fr1 : Frame} {cs1' cs1 : List Frame} {u1 w1 : World} {es' es : Array Event} {σ1 : Nat → Nat} {D1 : Nat → Prop}
      (hL : ∀ τ, Agree τ u.tape u.drawn u1.drawn → L (tp u τ) = .go (G (Frame.enter P' f a kind) (fr1' :: (cs1' ++ tl))) (tp u1 τ) es')
      (ha : VsR σ1 D1 a a') (hf : FrR σ1 D1 T Sp P'.funcs P.funcs fr1' fr1) (hc : LR (FrR σ1 D1 T Sp P'.funcs P.funcs) cs1' cs1) (hm : Moved T W0 σ D u w σ1 D1 u1 w1 es) (hd : kind = .deferred → fr1.mode ≠ .run) (hn : kind = .normal → fr1.mode = .run) (hnd : kind = .deferred → nd f = false) (hsz : nd f = true → a.size = 2) :
      StepOut T W0 Sp P' P tl tail σ D u w L (.go (G (Frame.enter P f a' kind) (fr1 :: (cs1 ++ tail))) w1 es)
  | bad {s : GStep} {o : Outcome} {u1 : World} {es : Array Event} (h : L u = .ended o u1 es) : StepOut T W0 Sp P' P tl tail σ D u w L s
section
variable {T : Tables} {W0 : World} {Sp : FuncId → Prop} {P' P : Program} {tl tail : List Frame} {σ : Nat → Nat} {D : Nat → Prop} {u w : World} {L : World → GStep}
theorem bad_ended {o : Outcome} {u1 : World} {es : Array Event} {s : GStep} (h : L u = .ended o u1 es) : StepOut T W0 Sp P' P tl tail σ D u w L s := .bad h
theorem defer_rel {fr' fr : Frame} (h : FrR σ D T Sp P'.funcs P.funcs fr' fr) {d d' : Deferred} (hd : DefN σ D d d') : FrR σ D T Sp P'.funcs P.funcs { fr' with defers := d :: fr'.defers } { fr with defers := d' :: fr.defers } :=
  ⟨h.fn, h.tmps, h.todo, .cons hd h.defers, h.mode, h.kind, h.kinds, h.round', h.round, h.known⟩
section
variable {Q : Program} {fr : Frame} {cs : List Frame} {s : Sem Next} {v0 v1 : World} {es : Array Event}
theorem ap_value (hk : fr.kind ≠ .early) {v : Value} (hr : s.runT Q v0 #[] = (.ok (.value v) v1, es)) : stepG.apply Q true fr cs none s v0 = .go (G (fr.finish v) cs) v1 (seen Q fr.fn es ++ #[]) := by
  have b : (fr.kind == CallKind.early) = false := by simpa using hk
  unfold stepG.apply
  simp only [if_true, hr, b, Bool.false_eq_true, if_false]
  rfl
theorem ap_skip (hk : fr.kind ≠ .early) (hr : s.runT Q v0 #[] = (.ok .skip v1, es)) : stepG.apply Q true fr cs none s v0 = .go (G (fr.finish undef) cs) v1 (seen Q fr.fn es ++ #[]) := by
  have b : (fr.kind == CallKind.early) = false := by simpa using hk
  unfold stepG.apply
  simp only [if_true, hr, b, Bool.false_eq_true, if_false]
  rfl
theorem ap_defer (hk : fr.kind ≠ .early) {d : Deferred} (hr : s.runT Q v0 #[] = (.ok (.defer d) v1, es)) : stepG.apply Q true fr cs none s v0 = .go (G ({ fr with defers := d :: fr.defers }.finish undef) cs) v1 (seen Q fr.fn es ++ #[]) := by
  have b : (fr.kind == CallKind.early) = false := by simpa using hk
  unfold stepG.apply
  simp only [if_true, hr, b, Bool.false_eq_true, if_false]
  rfl
theorem ap_panic (hk : fr.kind ≠ .early) {v : Value} (hr : s.runT Q v0 #[] = (.halt (.panic v) v1, es)) : stepG.apply Q true fr cs none s v0 = .go (G (fr.raise [{ v, recovered := false }]) cs) v1 (seen Q fr.fn es ++ #[]) := by
  have b : (fr.kind == CallKind.early) = false := by simpa using hk
  unfold stepG.apply
  simp only [if_true, hr, b, Bool.false_eq_true, if_false]
  rfl
theorem ap_bad (hk : fr.kind ≠ .early) {h : Halt} (hb : badHalt h) (hr : s.runT Q v0 #[] = (.halt h v1, es)) : ∃ o es', stepG.apply Q true fr cs none s v0 = .ended o v1 es' := by
  have b : (fr.kind == CallKind.early) = false := by simpa using hk
  unfold stepG.apply
  simp only [if_true, hr, b, Bool.false_eq_true, if_false]
  cases h with
  | stuck s => exact ⟨_, _, rfl⟩
  | unsupported uu => cases uu <;> first | exact ⟨_, _, rfl⟩ | exact hb.elim
  | _ => exact hb.elim
/-- No call of a row stands ahead. -/
def NoCall (l : List Item) : Prop := ∀ d b r sv k, l ≠ .call d b r sv :: k
theorem ap_enter (hk : fr.kind ≠ .early) (hn : NoCall fr.todo) {f : FuncId} {a : Array Value} (hr : s.runT Q v0 #[] = (.ok (.enter f a) v1, es)) : stepG.apply Q true fr cs none s v0 = .go (G (Frame.enter Q f a .normal) (fr :: cs)) v1 (seen Q fr.fn es ++ #[]) := by
  have b : (fr.kind == CallKind.early) = false := by simpa using hk
  obtain ⟨fn, tmps, todo, defers, mode, kind, round⟩ := fr
  unfold stepG.apply
  dsimp only at hn b
  simp only [if_true, hr, b, Bool.false_eq_true, if_false]
  rcases todo with _ | ⟨i, k⟩
  · rfl
  · cases i <;> first | rfl | exact absurd rfl (hn _ _ _ _ _)
end
theorem nocall {fr' fr : Frame} (h : FrR σ D T Sp P'.funcs P.funcs fr' fr) : NoCall fr'.todo ∧ NoCall fr.todo := by
  have ht := h.todo
  revert ht
  generalize fr'.todo = l
  generalize fr.todo = m
  intro ht
  cases ht with
  | nil => exact ⟨fun _ _ _ _ _ e => (by cases e), fun _ _ _ _ _ e => (by cases e)⟩
  | cons hab _ => cases hab <;> exact ⟨fun _ _ _ _ _ e => (by cases e), fun _ _ _ _ _ e => (by cases e)⟩
theorem apply_out (hP' : P'.toTables = T) (hP : P.toTables = T) (hB : BodR T Sp P'.funcs P.funcs) (h : Sit σ D T W0 u w) (hy : Sync u w) {fr' fr : Frame} {cs' cs : List Frame} (hf : FrR σ D T Sp P'.funcs P.funcs fr' fr) (hc : LR (FrR σ D T Sp P'.funcs P.funcs) cs' cs) (hm0 : fr.mode = .run)
    {s s' : Sem Next} (hs : ∀ σ1 D1, Up σ D σ1 D1 → Inj σ1 D1 → Glob σ1 D1 T → SRel σ1 D1 P' P (NextR σ1 D1 P'.funcs P.funcs) s s') :
    StepOut T W0 Sp P' P tl tail σ D u w (fun u => stepG.apply P' true fr' (cs' ++ tl) none s u) (stepG.apply P true fr (cs ++ tail) none s' w) := by
  have hrun := run_ex (R := fun σ1 D1 => NextR σ1 D1 P'.funcs P.funcs) hP' hP h hy hs
  have hk : fr.kind ≠ .early := by rcases hf.kinds with e | e <;> rw [e] <;> exact CallKind.noConfusion
  have hk' : fr'.kind ≠ .early := by rw [hf.kind]; exact hk
  rcases hx : s.runT P' u #[] with ⟨r, es0⟩
  rcases hx' : s'.runT P w #[] with ⟨r', es⟩
  have ht := run_tape (R := fun σ1 D1 => NextR σ1 D1 P'.funcs P.funcs) hP' hP h hy hs hx
  rw [hx, hx'] at hrun
  have hsub : ∀ {es : Array Event} {fn : FuncId}, ∀ e ∈ seen P fn es ++ #[], e ∈ es := fun e he => mem_seen (by simpa using he)
  rcases r with ⟨n, u1⟩ | ⟨h0, u1⟩
  · rcases r' with ⟨n', w1⟩ | ⟨h1, w1⟩
    · obtain ⟨σ1, D1, hm, hn⟩ := hrun
      have hf1 := hf.up hm.up
      have hc1 := hc.mono fun _ _ x => FrR.up hm.up x
      cases hn with
      | value hv =>
        rw [ap_value hk hx']
        exact .go (fun τ hτ => ap_value hk' (ht τ hτ)) (finish_rel hf1 hv) hc1 (hm.sub hsub)
      | skip =>
        rw [ap_skip hk hx']
        exact .go (fun τ hτ => ap_skip hk' (ht τ hτ)) (finish_rel hf1 undef_self) hc1 (hm.sub hsub)
      | enter f hkb ha h2 =>
        rw [ap_enter hk (nocall hf).2 hx']
        by_cases hsp : Sp f
        · exact .special hsp hkb (.inl rfl) (fun τ hτ => ap_enter hk' (nocall hf).1 (ht τ hτ)) ha hf1 hc1 (hm.sub hsub) (fun e => by cases e) (fun _ => hm0) (fun e => by cases e) h2
        · exact .go (cs1' := fr' :: cs') (cs1 := fr :: cs) (fun τ hτ => ap_enter hk' (nocall hf).1 (ht τ hτ)) (enter_rel hB hkb hsp ha (.inl rfl) rfl rfl) (.cons hf1 hc1) (hm.sub hsub)
      | defer hd =>
        rw [ap_defer hk hx']
        exact .go (fun τ hτ => ap_defer hk' (ht τ hτ)) (finish_rel (defer_rel hf1 hd) undef_self) hc1 (hm.sub hsub)
    · exact hrun.elim
  · by_cases hp : ∃ v, h0 = .panic v
    · obtain ⟨v, rfl⟩ := hp
      rcases r' with ⟨n', w1⟩ | ⟨h1, w1⟩
      · exact hrun.elim
      · cases h1 with
        | panic v' =>
          obtain ⟨σ1, D1, hm, hv⟩ := hrun
          rw [ap_panic hk hx']
          exact .go (fun τ hτ => ap_panic hk' (ht τ hτ)) (raise_rel (hf.up hm.up) (.cons (.mk hv) .nil)) (hc.mono fun _ _ x => FrR.up hm.up x) (hm.sub hsub)
        | _ => exact hrun.elim
    · have hb : badHalt h0 := by
        cases h0 <;> first | exact hrun | exact absurd ⟨_, rfl⟩ hp
      obtain ⟨o, es', e⟩ := ap_bad (cs := cs' ++ tl) hk' hb hx
      exact bad_ended e
end
end Go.Proofs.Ytgfgoflhmikalaa.par

namespace Go.Proofs.Ytgfgoflhmikalaa.par
open Go Go.Conc
set_option linter.unusedVariables false
set_option linter.unusedSimpArgs false
section
variable {T : Tables} {W0 : World} {Sp : FuncId → Prop} {F' F : Array Func} {tl tail : List Frame} {σ : Nat → Nat} {D : Nat → Prop} {u w : World}
theorem run_step {P : Program} {main : Bool} {fr : Frame} {cs : List Frame} (hm : fr.mode = .run) : stepG P main (G fr cs) w = stepG.exec P main true fr cs none w := by
  simp [stepG, G, hm]
/-- A frame whose list of things to do is turned. -/
theorem todo_rel {fr' fr : Frame} (h : FrR σ D T Sp F' F fr' fr) {l m : List Item} (hl : LR (ItemR T) l m) : FrR σ D T Sp F' F { fr' with todo := l } { fr with todo := m } :=
  ⟨h.fn, h.tmps, hl, h.defers, h.mode, h.kind, h.kinds, h.round', h.round, h.known⟩
theorem ret_rel {fr' fr : Frame} (h : FrR σ D T Sp F' F fr' fr) : FrR σ D T Sp F' F { fr' with mode := .returning } { fr with mode := .returning } :=
  ⟨h.fn, h.tmps, h.todo, h.defers, .returning, h.kind, h.kinds, h.round', h.round, h.known⟩
theorem Moved.drew (h : Sit σ D T W0 u w) : Moved T W0 σ D u w σ D { u with drawn := u.drawn + 1 } { w with drawn := w.drawn + 1 } #[] :=
  ⟨⟨⟨h.wr.obj, h.wr.fut, h.wr.low, h.wr.orig⟩, h.inj, h.glob, h.bound, h.gu, h.gw⟩, fun r hr => ⟨hr, rfl⟩, fun r hr => .inl hr, fun i hi => (by dsimp only at hi; omega), turned_drew u w, fun e he => by simp at he⟩
variable (hz : ZP T) (hB : BodR T Sp F' F) (h : Sit σ D T W0 u w) (hy : Sync u w) {fr' fr : Frame} {cs' cs : List Frame} (hf : FrR σ D T Sp F' F fr' fr) (hc : LR (FrR σ D T Sp F' F) cs' cs)
include hz hB h hy hf hc in
theorem exec_out (hm : fr'.mode = .run) (main : Bool) : StepOut T W0 Sp ⟨T, F'⟩ ⟨T, F⟩ tl tail σ D u w (fun u => stepG.exec ⟨T, F'⟩ true true fr' (cs' ++ tl) none u) (stepG.exec ⟨T, F⟩ main true fr (cs ++ tail) none w) := by
  have hm2 : fr.mode = .run := by
    have := hf.mode
    rw [hm] at this
    cases hx : fr.mode <;> rw [hx] at this <;> cases this
  have ht := hf.todo
  have hr' := hf.round'
  have hr := hf.round
  obtain ⟨fn', tmps', l, defers', mode', kind', round'⟩ := fr'
  obtain ⟨fn, tmps, m, defers, mode, kind, round⟩ := fr
  dsimp only at ht hr' hr hm hm2
  subst hr' hr hm hm2
  have same : ∀ {l1 m1 : List Item} {L : World → GStep}, (∀ v, L v = .go (G ⟨fn', tmps', l1, defers', .run, kind', none⟩ (cs' ++ tl)) v #[]) → LR (ItemR T) l1 m1 → StepOut T W0 Sp ⟨T, F'⟩ ⟨T, F⟩ tl tail σ D u w L (.go (G ⟨fn, tmps, m1, defers, .run, kind, none⟩ (cs ++ tail)) w #[]) := fun hL hl => .go (fun τ _ => hL _) (todo_rel hf hl) hc (Moved.refl h)
  have leave : ∀ {L : World → GStep}, (∀ v, L v = .go (G ⟨fn', tmps', l, defers', .returning, kind', none⟩ (cs' ++ tl)) v #[]) → StepOut T W0 Sp ⟨T, F'⟩ ⟨T, F⟩ tl tail σ D u w L (.go (G ⟨fn, tmps, m, defers, .returning, kind, none⟩ (cs ++ tail)) w #[]) := fun hL => .go (fun τ _ => hL _) (ret_rel hf) hc (Moved.refl h)
  cases ht with
  | nil => exact leave (fun _ => rfl)
  | @cons a b l m hab hlm =>
    cases hab with
    | inBlock id => exact same (fun _ => rfl) hlm
    | inScope hcd => exact same (fun _ => rfl) hlm
    | inLoop hcd => exact same (fun _ => rfl) (.cons (.code hcd) (.cons (.inLoop hcd) hlm))
    | code hcd =>
      cases hcd with
      | refuse why c => exact bad_ended rfl
      | skip => exact same (fun _ => rfl) hlm
      | ret => exact leave (fun _ => rfl)
      | label id => exact same (fun _ => rfl) hlm
      | exit id =>
        rcases exitTo_rel id hlm with ⟨e1, e2⟩ | ⟨r, r', e1, e2, hrr⟩
        · exact bad_ended (o := _) (u1 := u) (es := #[]) (by unfold stepG.exec; simp only [e1]; rfl)
        · have hw : stepG.exec ⟨T, F⟩ main true ⟨fn, tmps, .code (.exit id) :: m, defers, .run, kind, none⟩ (cs ++ tail) none w = .go (G ⟨fn, tmps, r', defers, .run, kind, none⟩ (cs ++ tail)) w #[] := by unfold stepG.exec; simp only [e2]; rfl
          rw [hw]
          exact same (fun v => by unfold stepG.exec; simp only [e1]; rfl) hrr
      | @region id ops draw hops =>
        cases draw with
        | false => exact same (fun _ => rfl) (.cons (.inRegion hops _) hlm)
        | true =>
          have hfn : fn' = fn := hf.fn
          subst hfn
          have e0 : u.tape u.drawn = w.tape w.drawn := hy 0
          have hw : stepG.exec ⟨T, F⟩ main true ⟨fn', tmps, .code (.region id ops true) :: m, defers, .run, kind, none⟩ (cs ++ tail) none w = .go (G ⟨fn', tmps, .inRegion ops (Region.schedule ((⟨T, F⟩ : Program).follows .mixedOrders) ops (w.tape w.drawn (.order fn' id))) :: m, defers, .run, kind, none⟩ (cs ++ tail)) { w with drawn := w.drawn + 1 } #[] := by
            unfold stepG.exec
            simp only [Bool.not_true, Bool.false_eq_true, if_false, choose, Sem.run, Question.forced, Question.cut]
            rfl
          rw [hw]
          refine .go (u1 := { u with drawn := u.drawn + 1 }) (fr1' := ⟨fn', tmps', .inRegion ops (Region.schedule ((⟨T, F⟩ : Program).follows .mixedOrders) ops (w.tape w.drawn (.order fn' id))) :: l, defers', .run, kind', none⟩) (es' := #[]) (fun τ hτ => ?_) (todo_rel hf (.cons (.inRegion hops _) hlm)) hc (Moved.drew h)
          have e3 : τ u.drawn = w.tape w.drawn := (hτ u.drawn (Nat.le_refl _) (Nat.lt_succ_self _)).trans e0
          unfold stepG.exec
          simp only [Bool.not_true, Bool.false_eq_true, if_false, choose, Sem.run, Question.forced, Question.cut, tp, e3]
          rfl
      | seq ha hb => exact same (fun _ => rfl) (.cons (.code ha) (.cons (.code hb) hlm))
      | @cond c hcc x y x' y' ha hb =>
        have hv := (eval_rel hf.tmps).1 c hcc
        have ev : ∀ v', (Frame.eval ⟨fn, tmps, .code (.cond c x' y') :: m, defers, .run, kind, none⟩ c) = .bool v' → stepG.exec ⟨T, F⟩ main true ⟨fn, tmps, .code (.cond c x' y') :: m, defers, .run, kind, none⟩ (cs ++ tail) none w = .go (G ⟨fn, tmps, .code (if v' then x' else y') :: m, defers, .run, kind, none⟩ (cs ++ tail)) w #[] := by
          intro v' e
          unfold stepG.exec
          simp only [e]
          rfl
        have el : ∀ v' w, (Frame.eval ⟨fn', tmps', .code (.cond c x y) :: l, defers', .run, kind', none⟩ c) = .bool v' → stepG.exec ⟨T, F'⟩ true true ⟨fn', tmps', .code (.cond c x y) :: l, defers', .run, kind', none⟩ (cs' ++ tl) none w = .go (G ⟨fn', tmps', .code (if v' then x else y) :: l, defers', .run, kind', none⟩ (cs' ++ tl)) w #[] := by
          intro v' w e
          unfold stepG.exec
          simp only [e]
          rfl
        have eb : (∀ b, (Frame.eval ⟨fn', tmps', .code (.cond c x y) :: l, defers', .run, kind', none⟩ c) ≠ .bool b) → ∃ o es, stepG.exec ⟨T, F'⟩ true true ⟨fn', tmps', .code (.cond c x y) :: l, defers', .run, kind', none⟩ (cs' ++ tl) none u = .ended o u es := by
          intro e
          unfold stepG.exec
          dsimp only
          split
          · rename_i b hb; exact absurd hb (e b)
          · exact ⟨_, _, rfl⟩
        revert hv ev el eb
        generalize Frame.eval ⟨fn', tmps', .code (.cond c x y) :: l, defers', .run, kind', none⟩ c = v
        generalize Frame.eval ⟨fn, tmps, .code (.cond c x' y') :: m, defers, .run, kind, none⟩ c = v'
        intro hv ev el eb
        by_cases hbool : ∃ b, v = .bool b
        · obtain ⟨b, rfl⟩ := hbool
          have e2 : v' = .bool b := (bool_rel hv b).1 rfl
          rw [ev b e2]
          exact same (fun z => el b z rfl) (by cases b <;> first | exact .cons (.code ha) hlm | exact .cons (.code hb) hlm)
        · obtain ⟨o, es, e⟩ := eb (fun b e => hbool ⟨b, e⟩)
          exact bad_ended e
      | block id ha => exact same (fun _ => rfl) (.cons (.code ha) (.cons (.inBlock id) hlm))
      | loop ha => exact same (fun _ => rfl) (.cons (.code ha) (.cons (.inLoop ha) hlm))
      | scope ha => exact same (fun _ => rfl) (.cons (.code ha) (.cons (.inScope ha) hlm))
    | @inRegion ops hops todo =>
      cases todo with
      | nil => exact same (fun _ => rfl) hlm
      | cons i rest =>
        have ey : yielded ops tmps' = yielded ops tmps := funext (yielded_rel hf.tmps ops)
        by_cases hw : ((ops[i]?).map (Region.wanted · (yielded ops tmps))).getD false = true
        · rcases ho : ops[i]? with _ | o
          · rw [ho] at hw; simp at hw
          have hok : okOp T o.op = true := hops o (Array.mem_of_getElem? ho)
          have hw' : ((some o).map (Region.wanted · (yielded ops tmps))).getD false = true := by rw [← ho]; exact hw
          have e1 : ∀ u, stepG.exec ⟨T, F'⟩ true true ⟨fn', tmps', .inRegion ops (i :: rest) :: l, defers', .run, kind', none⟩ (cs' ++ tl) none u = stepG.apply ⟨T, F'⟩ true ⟨fn', tmps', .inRegion ops (i :: rest) :: l, defers', .run, kind', none⟩ (cs' ++ tl) none (execOp (Frame.eval ⟨fn', tmps', .inRegion ops (i :: rest) :: l, defers', .run, kind', none⟩) o) u := by
            intro u
            unfold stepG.exec stepG.oper
            simp only [ey, Frame.oper?, ho]
            exact if_pos hw'
          have e2 : stepG.exec ⟨T, F⟩ main true ⟨fn, tmps, .inRegion ops (i :: rest) :: m, defers, .run, kind, none⟩ (cs ++ tail) none w = stepG.apply ⟨T, F⟩ true ⟨fn, tmps, .inRegion ops (i :: rest) :: m, defers, .run, kind, none⟩ (cs ++ tail) none (execOp (Frame.eval ⟨fn, tmps, .inRegion ops (i :: rest) :: m, defers, .run, kind, none⟩) o) w := by
            unfold stepG.exec stepG.oper
            simp only [Frame.oper?, ho]
            exact if_pos hw'
          rw [show (fun u => stepG.exec ⟨T, F'⟩ true true ⟨fn', tmps', .inRegion ops (i :: rest) :: l, defers', .run, kind', none⟩ (cs' ++ tl) none u) = _ from funext e1, e2]
          exact apply_out (P' := ⟨T, F'⟩) (P := ⟨T, F⟩) rfl rfl hB h hy hf hc rfl (fun σ1 D1 hu hi hg => sr_execOp hz hB.fs hi hg (eval_rel (VsR.up hu hf.tmps)) o hok)
        · have e1 : ∀ u, stepG.exec ⟨T, F'⟩ true true ⟨fn', tmps', .inRegion ops (i :: rest) :: l, defers', .run, kind', none⟩ (cs' ++ tl) none u = .go (G (Frame.finish ⟨fn', tmps', .inRegion ops (i :: rest) :: l, defers', .run, kind', none⟩ undef) (cs' ++ tl)) u #[] := by
            intro u
            unfold stepG.exec
            simp only [ey, hw, Bool.false_eq_true, if_false]
            rfl
          have e2 : stepG.exec ⟨T, F⟩ main true ⟨fn, tmps, .inRegion ops (i :: rest) :: m, defers, .run, kind, none⟩ (cs ++ tail) none w = .go (G (Frame.finish ⟨fn, tmps, .inRegion ops (i :: rest) :: m, defers, .run, kind, none⟩ undef) (cs ++ tail)) w #[] := by
            unfold stepG.exec
            simp only [hw, Bool.false_eq_true, if_false]
            rfl
          rw [e2]
          exact .go (fun τ _ => e1 _) (finish_rel hf undef_self) hc (Moved.refl h)
end
end Go.Proofs.Ytgfgoflhmikalaa.par

namespace Go.Proofs.Ytgfgoflhmikalaa.par
open Go Go.Conc
set_option linter.unusedVariables false
set_option linter.unusedSimpArgs false
section
variable {σ : Nat → Nat} {D : Nat → Prop} {T : Tables} {F' F : Array Func}
theorem sr_mapM {ι : Type} {f f' : ι → Sem Value} (h : ∀ x, SRel σ D (⟨T, F'⟩ : Program) (⟨T, F⟩ : Program) (VR σ D) (f x) (f' x)) : ∀ (xs : List ι), SRel σ D (⟨T, F'⟩ : Program) (⟨T, F⟩ : Program) (fun l m => LR (VR σ D) l m) (xs.mapM f) (xs.mapM f')
  | [] => sr_pure .nil
  | x :: xs => by
    simp only [List.mapM_cons]
    refine (h x).bind (fun a b hab => ?_)
    exact (sr_mapM h xs).bind (fun l m hlm => sr_pure (.cons hab hlm))
theorem LR.vs {l m : List Value} (h : LR (VR σ D) l m) : VsR σ D l.toArray m.toArray := by
  induction h with
  | nil => exact VsR.nil
  | cons hab _ ih =>
    refine ⟨by simpa using ih.1, fun i x y hx hy => ?_⟩
    cases i with
    | zero => simp at hx hy; subst hx hy; exact hab
    | succ i => exact ih.2 i x y (by simpa using hx) (by simpa using hy)
theorem sr_results {fn' fn : Func} (hr : fn'.results = fn.results) {c c' : Array Value} (h : VsR σ D c c') : SRel σ D (⟨T, F'⟩ : Program) (⟨T, F⟩ : Program) (VR σ D) (results fn' c) (results fn c') := by
  unfold results
  rw [hr]
  refine SRel.bind (R := VsR σ D) ?_ (fun a b hab => ?_)
  · rw [Array.mapM_eq_mapM_toList, Array.mapM_eq_mapM_toList]
    refine SRel.bind (sr_mapM (fun x => ?_) fn.results.toList) (fun l m hlm => sr_pure (LR.vs hlm))
    cases x with
    | tmp t => exact sr_pure (getD_rel h t)
    | cell a t => exact (sr_asAddr (getD_rel h a)).bind (fun p q hpq => sr_loadVar t hpq)
  · refine sr_pure ?_
    by_cases h1 : a.size = 1
    · have h2 : b.size = 1 := by rw [← hab.1]; exact h1
      rw [dif_pos h1, dif_pos h2]
      exact hab.2 0 _ _ (Array.getElem?_eq_getElem _) (Array.getElem?_eq_getElem _)
    · have h2 : ¬ b.size = 1 := by rw [← hab.1]; exact h1
      rw [dif_neg h1, dif_neg h2]
      exact .tuple hab.1 hab.2
end
section
variable {T : Tables} {W0 : World} {Sp : FuncId → Prop} {F' F : Array Func} {tl tail : List Frame} {σ : Nat → Nat} {D : Nat → Prop} {u w : World}
theorem unwind_step {P : Program} {main : Bool} {fr : Frame} {cs : List Frame} (hm : fr.mode ≠ .run) : stepG P main (G fr cs) w = unwind P main fr cs none w := by
  obtain ⟨fn, tmps, todo, defers, mode, kind, round⟩ := fr
  cases mode <;> first | exact absurd rfl hm | rfl
theorem drop_rel {fr' fr : Frame} (h : FrR σ D T Sp F' F fr' fr) {l m : List Deferred} (hl : LR (DefN σ D) l m) : FrR σ D T Sp F' F { fr' with defers := l } { fr with defers := m } :=
  ⟨h.fn, h.tmps, h.todo, hl, h.mode, h.kind, h.kinds, h.round', h.round, h.known⟩
variable (hz : ZP T) (hB : BodR T Sp F' F) (h : Sit σ D T W0 u w) (hy : Sync u w) {fr' fr : Frame} {cs' cs : List Frame} (hf : FrR σ D T Sp F' F fr' fr) (hc : LR (FrR σ D T Sp F' F) cs' cs)
section
variable {Q : Program} {fx : Frame} {cx : List Frame} {v0 v1 : World} {es : Array Event} {d : Deferred}
/-- A deferred call that is made: no nil function while a panic is on its way. -/
def Makes (fr : Frame) (d : Deferred) : Prop := ¬ (d.target = .nil ∧ ∃ c, fr.mode = .panicking c)
theorem cd_bad0 (h : ¬ Makes fx d) : ∃ o, callDeferred Q fx cx none d v0 = .ended o v0 #[] := by
  obtain ⟨t, a⟩ := d
  obtain ⟨fn, tmps, todo, defers, mode, kind, round⟩ := fx
  unfold Makes at h
  have h' : t = .nil ∧ ∃ c, mode = .panicking c := Classical.byContradiction h
  obtain ⟨rfl, c, rfl⟩ := h'
  exact ⟨_, rfl⟩
theorem cd_value (hm : Makes fx d) {v : Value} (hr : (invoke d.target d.args).runT Q v0 #[] = (.ok (.value v) v1, es)) : callDeferred Q fx cx none d v0 = .go (G fx cx) v1 (seen Q fx.fn es ++ #[]) := by
  obtain ⟨t, a0⟩ := d
  obtain ⟨fn, tmps, todo, defers, mode, kind, round⟩ := fx
  unfold callDeferred
  dsimp only at hr ⊢
  cases t <;> cases mode <;> first | exact absurd ⟨rfl, _, rfl⟩ hm | (simp only [hr]; rfl)
theorem cd_skip (hm : Makes fx d) (hr : (invoke d.target d.args).runT Q v0 #[] = (.ok .skip v1, es)) : callDeferred Q fx cx none d v0 = .go (G fx cx) v1 (seen Q fx.fn es ++ #[]) := by
  obtain ⟨t, a0⟩ := d
  obtain ⟨fn, tmps, todo, defers, mode, kind, round⟩ := fx
  unfold callDeferred
  dsimp only at hr ⊢
  cases t <;> cases mode <;> first | exact absurd ⟨rfl, _, rfl⟩ hm | (simp only [hr]; rfl)
theorem cd_defer (hm : Makes fx d) {e : Deferred} (hr : (invoke d.target d.args).runT Q v0 #[] = (.ok (.defer e) v1, es)) : callDeferred Q fx cx none d v0 = .go (G fx cx) v1 (seen Q fx.fn es ++ #[]) := by
  obtain ⟨t, a0⟩ := d
  obtain ⟨fn, tmps, todo, defers, mode, kind, round⟩ := fx
  unfold callDeferred
  dsimp only at hr ⊢
  cases t <;> cases mode <;> first | exact absurd ⟨rfl, _, rfl⟩ hm | (simp only [hr]; rfl)
theorem cd_enter (hm : Makes fx d) {f : FuncId} {a : Array Value} (hr : (invoke d.target d.args).runT Q v0 #[] = (.ok (.enter f a) v1, es)) : callDeferred Q fx cx none d v0 = .go (G (Frame.enter Q f a .deferred) (fx :: cx)) v1 (seen Q fx.fn es ++ #[]) := by
  obtain ⟨t, a0⟩ := d
  obtain ⟨fn, tmps, todo, defers, mode, kind, round⟩ := fx
  unfold callDeferred
  dsimp only at hr ⊢
  cases t <;> cases mode <;> first | exact absurd ⟨rfl, _, rfl⟩ hm | (simp only [hr]; rfl)
theorem cd_panic (hm : Makes fx d) {v : Value} (hr : (invoke d.target d.args).runT Q v0 #[] = (.halt (.panic v) v1, es)) : callDeferred Q fx cx none d v0 = .go (G (fx.raise [{ v, recovered := false }]) cx) v1 (seen Q fx.fn es ++ #[]) := by
  obtain ⟨t, a0⟩ := d
  obtain ⟨fn, tmps, todo, defers, mode, kind, round⟩ := fx
  unfold callDeferred
  dsimp only at hr ⊢
  cases t <;> cases mode <;> first | exact absurd ⟨rfl, _, rfl⟩ hm | (simp only [hr]; rfl)
theorem cd_bad (hm : Makes fx d) {h : Halt} (hb : badHalt h) (hr : (invoke d.target d.args).runT Q v0 #[] = (.halt h v1, es)) : ∃ o es', callDeferred Q fx cx none d v0 = .ended o v1 es' := by
  obtain ⟨t, a0⟩ := d
  obtain ⟨fn, tmps, todo, defers, mode, kind, round⟩ := fx
  unfold callDeferred
  dsimp only at hr ⊢
  cases h with
  | stuck s => cases t <;> cases mode <;> first | exact absurd ⟨rfl, _, rfl⟩ hm | (simp only [hr]; exact ⟨_, _, rfl⟩)
  | unsupported uu => cases uu <;> first | exact hb.elim | (cases t <;> cases mode <;> first | exact absurd ⟨rfl, _, rfl⟩ hm | (simp only [hr]; exact ⟨_, _, rfl⟩))
  | _ => exact hb.elim
end
include hz hB h hy hf hc in
theorem defer_out (hm : fr'.mode ≠ .run) {d' d : Deferred} (hd : DefN σ D d' d) : StepOut T W0 Sp ⟨T, F'⟩ ⟨T, F⟩ tl tail σ D u w (fun u => callDeferred ⟨T, F'⟩ fr' (cs' ++ tl) none d' u) (callDeferred ⟨T, F⟩ fr (cs ++ tail) none d w) := by
  have hmr : fr.mode ≠ .run := by
    have := hf.mode
    intro e
    rw [e] at this
    cases hx : fr'.mode <;> rw [hx] at this <;> first | exact hm hx | cases this
  have hmk : Makes fr' d' → Makes fr d := by
    intro h1 ⟨h2, c, h3⟩
    refine h1 ⟨?_, ?_⟩
    · cases hd.1 with
      | mk ht _ => cases ht <;> first | rfl | cases h2
      | weird => cases h2
    · have := hf.mode
      rw [h3] at this
      revert this
      generalize fr'.mode = x
      intro this
      cases this
      exact ⟨_, rfl⟩
  refine Classical.byCases (p := Makes fr' d') (fun hmk' => ?_) (fun hmk' => by
    obtain ⟨o, e⟩ := cd_bad0 (Q := ⟨T, F'⟩) (cx := cs' ++ tl) (v0 := u) hmk'
    exact bad_ended e)
  have hmk2 := hmk hmk'
  have hs : ∀ σ1 D1, Up σ D σ1 D1 → Inj σ1 D1 → Glob σ1 D1 T → SRel σ1 D1 ⟨T, F'⟩ ⟨T, F⟩ (NextD σ1 D1 F' F) (invoke d'.target d'.args) (invoke d.target d.args) := by
    intro σ1 D1 hu hi hg
    obtain ⟨hd, hdn⟩ := hd
    cases hd with
    | mk ht ha => exact sr_invokeD hz hB.fs (ht.up hu) hdn (VsR.up hu ha)
    | weird v a m c b => exact sr_weirdCall hz v a
  have hrun := run_ex (P' := ⟨T, F'⟩) (P := ⟨T, F⟩) (R := fun σ1 D1 => NextD σ1 D1 F' F) rfl rfl h hy hs
  rcases hx : (invoke d'.target d'.args).runT (⟨T, F'⟩ : Program) u #[] with ⟨r, es0⟩
  rcases hx' : (invoke d.target d.args).runT (⟨T, F⟩ : Program) w #[] with ⟨r', es⟩
  have ht := run_tape (P' := ⟨T, F'⟩) (P := ⟨T, F⟩) (R := fun σ1 D1 => NextD σ1 D1 F' F) rfl rfl h hy hs hx
  rw [hx, hx'] at hrun
  have hsub : ∀ {es : Array Event} {fn : FuncId}, ∀ e ∈ seen (⟨T, F⟩ : Program) fn es ++ #[], e ∈ es := fun e he => mem_seen (by simpa using he)
  rcases r with ⟨n, u1⟩ | ⟨h0, u1⟩
  · rcases r' with ⟨n', w1⟩ | ⟨h1, w1⟩
    · obtain ⟨σ1, D1, hmv, hn, hnn⟩ := hrun
      have hf1 := hf.up hmv.up
      have hc1 := hc.mono fun _ _ x => FrR.up hmv.up x
      cases hn with
      | value hv =>
        rw [cd_value hmk2 hx']
        exact .go (fun τ hτ => cd_value hmk' (ht τ hτ)) hf1 hc1 (hmv.sub hsub)
      | skip =>
        rw [cd_skip hmk2 hx']
        exact .go (fun τ hτ => cd_skip hmk' (ht τ hτ)) hf1 hc1 (hmv.sub hsub)
      | defer hd =>
        rw [cd_defer hmk2 hx']
        exact .go (fun τ hτ => cd_defer hmk' (ht τ hτ)) hf1 hc1 (hmv.sub hsub)
      | enter f hk ha h2 =>
        rw [cd_enter hmk2 hx']
        by_cases hsp : Sp f
        · exact .special hsp hk (.inr rfl) (fun τ hτ => cd_enter hmk' (ht τ hτ)) ha hf1 hc1 (hmv.sub hsub) (fun _ => hmr) (fun e => by cases e) (fun _ => by simpa [ndN] using hnn) h2
        · exact .go (cs1' := fr' :: cs') (cs1 := fr :: cs) (fun τ hτ => cd_enter hmk' (ht τ hτ)) (enter_rel hB hk hsp ha (.inr rfl) rfl rfl) (.cons hf1 hc1) (hmv.sub hsub)
    · exact hrun.elim
  · by_cases hp : ∃ v, h0 = .panic v
    · obtain ⟨v, rfl⟩ := hp
      rcases r' with ⟨n', w1⟩ | ⟨h1, w1⟩
      · exact hrun.elim
      · cases h1 with
        | panic v' =>
          obtain ⟨σ1, D1, hmv, hv⟩ := hrun
          rw [cd_panic hmk2 hx']
          exact .go (fun τ hτ => cd_panic hmk' (ht τ hτ)) (raise_rel (hf.up hmv.up) (.cons (.mk hv) .nil)) (hc.mono fun _ _ x => FrR.up hmv.up x) (hmv.sub hsub)
        | _ => exact hrun.elim
    · have hb : badHalt h0 := by
        cases h0 <;> first | exact hrun | exact absurd ⟨_, rfl⟩ hp
      obtain ⟨o, es', e⟩ := cd_bad (cx := cs' ++ tl) hmk' hb hx
      exact bad_ended e
section
variable {Q : Program} {main : Bool} {fx c : Frame} {cx : List Frame} {v0 v1 : World} {es : Array Event}
theorem un_defer {d : Deferred} {ds : List Deferred} (hd : fx.defers = d :: ds) (ht : ∀ r, d.target ≠ .collected r) : unwind Q main fx cx none v0 = callDeferred Q { fx with defers := ds } cx none d v0 := by
  obtain ⟨fn, tmps, todo, defers, mode, kind, round⟩ := fx
  dsimp only at hd
  subst hd
  obtain ⟨t, a⟩ := d
  unfold unwind
  cases t <;> first | rfl | exact absurd rfl (ht _)
theorem un_panic {ch : List PanicEntry} (hd : fx.defers = []) (hm : fx.mode = .panicking ch) (hc : fx.catches Q = false) : unwind Q main fx (c :: cx) none v0 = .go (G (c.raise ch) cx) v0 #[] := by
  obtain ⟨fn, tmps, todo, defers, mode, kind, round⟩ := fx
  dsimp only at hd hm
  subst hd hm
  unfold unwind
  simp only [hc, Bool.false_eq_true, if_false]
  rfl
theorem un_ret {f : Func} (hd : fx.defers = []) (hm : fx.mode = .returning) (hf : Q.funcs[fx.fn]? = some f) {v : Value} (hr : (results f fx.tmps).runT Q v0 #[] = (.ok v v1, es)) : unwind Q main fx cx none v0 = GStep.after (seen Q fx.fn es) (doReturn Q main fx cx none v v1) := by
  obtain ⟨fn, tmps, todo, defers, mode, kind, round⟩ := fx
  dsimp only at hd hm hf hr
  subst hd hm
  unfold unwind
  simp only [hf, hr]
theorem un_ret_bad {f : Func} (hd : fx.defers = []) (hm : fx.mode = .returning) (hf : Q.funcs[fx.fn]? = some f) {h : Halt} (hr : (results f fx.tmps).runT Q v0 #[] = (.halt h v1, es)) : ∃ o es', unwind Q main fx cx none v0 = .ended o v1 es' := by
  obtain ⟨fn, tmps, todo, defers, mode, kind, round⟩ := fx
  dsimp only at hd hm hf hr
  subst hd hm
  unfold unwind
  simp only [hf, hr]
  cases h <;> exact ⟨_, _, rfl⟩
/-- No entry of the chain has been recovered. -/
def Fresh (fr : Frame) : Prop := ∀ v g older, fr.mode ≠ .panicking (⟨v, true, g⟩ :: older)
theorem dr_normal {v : Value} (hk : fx.kind = .normal) : doReturn Q main fx (c :: cx) none v v0 = .go (G (c.finish v) cx) v0 #[] := by
  unfold doReturn
  simp only [hk]
  rfl
theorem dr_deferred {v : Value} (hk : fx.kind = .deferred) (hf : Fresh c) : doReturn Q main fx (c :: cx) none v v0 = .go (G c cx) v0 #[] := by
  obtain ⟨fn, tmps, todo, defers, mode, kind, round⟩ := c
  unfold doReturn
  simp only [hk]
  unfold Fresh at hf
  dsimp only at hf
  cases mode with
  | run => rfl
  | returning => rfl
  | panicking ch =>
    rcases ch with _ | ⟨⟨v, r, g⟩, older⟩
    · rfl
    · cases r
      · rfl
      · exact absurd rfl (hf v g older)
end
theorem fresh_rel {fr' fr : Frame} (hx : FrR σ D T Sp F' F fr' fr) : Fresh fr' ∧ Fresh fr := by
  have hm := hx.mode
  constructor
  · intro v g older e
    rw [e] at hm
    revert hm
    generalize fr.mode = y
    intro hm
    cases hm with
    | panicking hch => cases hch with | cons hab _ => cases hab
  · intro v g older e
    rw [e] at hm
    revert hm
    generalize fr'.mode = y
    intro hm
    cases hm with
    | panicking hch => cases hch with | cons hab _ => cases hab
theorem catch_rel {fr' fr : Frame} {P' P : Program} (hx : FrR σ D T Sp F' F fr' fr) : fr'.catches P' = false ∧ fr.catches P = false := by
  have key : ∀ {P : Program} {fr : Frame} {l m : List Item}, LR (ItemR T) l m → (fr.todo = l ∨ fr.todo = m) → fr.catches P = false := by
    intro P fr l m hlm ht
    unfold Frame.catches
    cases hlm with
    | nil => rcases ht with e | e <;> rw [e] <;> split <;> first | rfl | (rename_i h2; cases h2)
    | cons hab _ => cases hab <;> rcases ht with e | e <;> rw [e] <;> split <;> first | rfl | (rename_i h2; cases h2)
  exact ⟨key hx.todo (.inl rfl), key hx.todo (.inr rfl)⟩
include hz hB h hy hf hc in
theorem unwind_out (hm : fr'.mode ≠ .run) (main : Bool) (hns : ¬ (cs' = [] ∧ fr'.defers = [])) : StepOut T W0 Sp ⟨T, F'⟩ ⟨T, F⟩ tl tail σ D u w (fun u => unwind ⟨T, F'⟩ true fr' (cs' ++ tl) none u) (unwind ⟨T, F⟩ main fr (cs ++ tail) none w) := by
  have hsub : ∀ {es : Array Event} {fn : FuncId}, ∀ e ∈ seen (⟨T, F⟩ : Program) fn es ++ #[], e ∈ es := fun e he => mem_seen (by simpa using he)
  have hdf := hf.defers
  revert hdf hns
  generalize hl : fr'.defers = l
  generalize hk : fr.defers = m
  intro hns hdf
  cases hdf with
  | @cons d' d l m hd hlm =>
    have hfr := drop_rel hf hlm
    have hout := defer_out (tl := tl) (tail := tail) hz hB h hy hfr hc hm hd
    have h1 : ∀ r, d'.target ≠ .collected r := by cases hd.1 with | mk ht _ => cases ht <;> intro r e <;> cases e | weird => intro r e; cases e
    have h2 : ∀ r, d.target ≠ .collected r := by cases hd.1 with | mk ht _ => cases ht <;> intro r e <;> cases e | weird => intro r e; cases e
    rw [show (fun u => unwind (⟨T, F'⟩ : Program) true fr' (cs' ++ tl) none u) = _ from funext fun u => un_defer (v0 := u) hl h1, un_defer hk h2]
    exact hout
  | nil =>
    have hmode := hf.mode
    have hkd := hf.kind
    have hks := hf.kinds
    obtain ⟨f', f, hf1, hf2, hres⟩ := hf.known
    have hfn := hf.fn
    cases hc with
    | nil => exact absurd ⟨rfl, rfl⟩ hns
    | @cons c' c l m hcc hrest =>
      generalize hx : fr'.mode = x at hmode hm
      generalize hy2 : fr.mode = y at hmode
      cases hmode with
      | run => exact absurd rfl hm
      | returning =>
        have hs : ∀ σ1 D1, Up σ D σ1 D1 → Inj σ1 D1 → Glob σ1 D1 T → SRel σ1 D1 (⟨T, F'⟩ : Program) (⟨T, F⟩ : Program) (VR σ1 D1) (results f' fr'.tmps) (results f fr.tmps) := fun σ1 D1 hu hi hg => sr_results hres (VsR.up hu hf.tmps)
        have hrun := run_ex (P' := ⟨T, F'⟩) (P := ⟨T, F⟩) (R := fun σ1 D1 => VR σ1 D1) rfl rfl h hy hs
        have hf1' : F'[fr'.fn]? = some f' := by rw [hfn]; exact hf1
        rcases hx1 : (results f' fr'.tmps).runT (⟨T, F'⟩ : Program) u #[] with ⟨r, es0⟩
        rcases hx2 : (results f fr.tmps).runT (⟨T, F⟩ : Program) w #[] with ⟨r', es⟩
        have ht := run_tape (P' := ⟨T, F'⟩) (P := ⟨T, F⟩) (R := fun σ1 D1 => VR σ1 D1) rfl rfl h hy hs hx1
        rw [hx1, hx2] at hrun
        rcases r with ⟨n, u1⟩ | ⟨h0, u1⟩
        · rcases r' with ⟨n', w1⟩ | ⟨h1, w1⟩
          · obtain ⟨σ1, D1, hmv, hv⟩ := hrun
            have h1 := hcc.up hmv.up
            have h2 := hrest.mono fun _ _ x => FrR.up hmv.up x
            rw [List.cons_append, List.cons_append, un_ret hk hy2 hf2 hx2]
            rcases hks with e | e
            · rw [dr_normal e]
              exact .go (fun τ hτ => by
                show unwind _ _ _ (c' :: (l ++ tl)) _ _ = _
                rw [un_ret hl hx hf1' (ht τ hτ), dr_normal (hkd.trans e)]
                rfl) (finish_rel h1 hv) h2 (hmv.sub hsub)
            · rw [dr_deferred e (fresh_rel h1).2]
              exact .go (fun τ hτ => by
                show unwind _ _ _ (c' :: (l ++ tl)) _ _ = _
                rw [un_ret hl hx hf1' (ht τ hτ), dr_deferred (hkd.trans e) (fresh_rel h1).1]
                rfl) h1 h2 (hmv.sub hsub)
          · exact hrun.elim
        · obtain ⟨o, es', e⟩ := un_ret_bad (main := true) (cx := c' :: (l ++ tl)) hl hx hf1' hx1
          exact bad_ended e
      | panicking hch =>
        rw [List.cons_append, List.cons_append, un_panic hk hy2 (catch_rel (P' := ⟨T, F'⟩) hf).2]
        exact .go (fun τ hτ => un_panic hl hx (catch_rel (P := ⟨T, F⟩) hf).1) (raise_rel hcc hch) hrest (Moved.refl h)
include hz hB h hy hf hc in
/-- THE STEP. -/
theorem step_out (main : Bool) (hns : ¬ (cs' = [] ∧ fr'.mode ≠ .run ∧ fr'.defers = [])) : StepOut T W0 Sp ⟨T, F'⟩ ⟨T, F⟩ tl tail σ D u w (fun u => stepG ⟨T, F'⟩ true (G fr' (cs' ++ tl)) u) (stepG ⟨T, F⟩ main (G fr (cs ++ tail)) w) := by
  by_cases hm : fr'.mode = .run
  · have hm2 : fr.mode = .run := by
      have := hf.mode
      rw [hm] at this
      cases hx : fr.mode <;> rw [hx] at this <;> cases this
    rw [show (fun u => stepG (⟨T, F'⟩ : Program) true (G fr' (cs' ++ tl)) u) = _ from funext fun u => run_step (w := u) hm, run_step hm2]
    exact exec_out hz hB h hy hf hc hm main
  · have hm2 : fr.mode ≠ .run := by
      have := hf.mode
      intro e
      rw [e] at this
      cases hx : fr'.mode <;> rw [hx] at this <;> first | exact hm hx | cases this
    rw [show (fun u => stepG (⟨T, F'⟩ : Program) true (G fr' (cs' ++ tl)) u) = _ from funext fun u => unwind_step (w := u) hm, unwind_step hm2]
    exact unwind_out hz hB h hy hf hc hm main (fun e => hns ⟨e.1, hm, e.2⟩)
end
end Go.Proofs.Ytgfgoflhmikalaa.par
