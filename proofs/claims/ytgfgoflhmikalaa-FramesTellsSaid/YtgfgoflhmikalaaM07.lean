/- Part 7 of what the proofs stand on: lemmas on worlds, on goroutines, contracts of functions. No conditions. -/
import Derived.Test.YtgfgoflhmikalaaM06
import Derived.Conc.Listed
import Derived.Test.YtgfgoflhmikalaaProg
namespace Go.Proofs.Ytgfgoflhmikalaa.par
open Go
set_option linter.unusedVariables false
set_option linter.unusedSimpArgs false
/-- Operands that the relation serves. -/
def okOpd : Operand → Bool
  | .tmp _ => true
  | .const v => plainB v
  | .global _ => false
  | .func f => !nd f
/-- The callee: any function, by its name. -/
def okCallee : Operand → Bool
  | .func _ => true
  | x => okOpd x
def okB : Builtin → Bool
  | .append | .cap | .copy | .len | .min | .unsafeSliceData | .unsafeString => true
  | _ => false
/-- Who is called by name alone is given two arguments. -/
def okArity : Operand → Nat → Bool
  | .func f, n => !nd f || n == 2
  | _, _ => true
def okCall (c : Call) : Bool :=
  c.args.all okOpd && match c.callee with
  | .value f => okCallee f && okArity f c.args.size
  | .builtin b => okB b
  | .invoke _ _ => false
def okDef (c : Call) : Bool :=
  match c.callee with
  | .value f => okOpd f
  | _ => true
def okFn : Fn → Bool
  | .func f => !nd f
  | _ => false
/-- Operations that the relation serves. -/
def okOp (T : Tables) : Op → Bool
  | .move x | .assign x | .box _ x | .load _ x | .unOp _ _ x | .makeInterface _ x | .fieldAddr _ x _ | .field _ x _ | .extract x _ => okOpd x
  | .pick c a b => okOpd c && okOpd a && okOpd b
  | .alloc _ => true
  | .build _ ps | .buildSlice _ _ ps => ps.all fun p => okOpd p.2
  | .store _ a x | .binOp _ _ a x _ | .makeSlice _ a x | .indexAddr _ a x | .index _ a x => okOpd a && okOpd x
  | .nilCheck x => okOpd x
  | .convert s d x => okConv T s d && okOpd x
  | .makeFunc fn a b => okFn fn && a.all okOpd && b.all okOpd
  | .slice _ x l h m => okOpd x && l.all okOpd && h.all okOpd && m.all okOpd
  | .call c => okCall c
  | .defer c => okCall c && okDef c
  | _ => false
section
variable (σ : Nat → Nat) (D : Nat → Prop)
inductive TgR : Target → Target → Prop
  | func (f : FuncId) {c c' : Array Value} (h : VsR σ D c c') : TgR (.fn (.func f) c) (.fn (.func f) c')
  | nil : TgR .nil .nil
  | builtin (b : Builtin) (h : okB b = true) (at' : Array TypeId) (t : TypeId) (cs : Array Bool) : TgR (.builtin b at' t cs) (.builtin b at' t cs)
inductive DefR : Deferred → Deferred → Prop
  | mk {t t' : Target} {a a' : Array Value} (ht : TgR σ D t t') (ha : VsR σ D a a') (hs : ∀ f c, t = .fn (.func f) c → nd f = true → a.size + c.size = 2) : DefR ⟨t, a⟩ ⟨t', a'⟩
  | weird (v : Value) (a : Array Value) (m : String) (c b : Array Value) : DefR ⟨.fn (.method "") #[], #[.iface wkT v] ++ a⟩ ⟨.fn (.method m) c, b⟩
def ndT : Target → Bool
  | .fn (.func f) _ => !nd f
  | _ => true
def ndN : Next → Bool
  | .enter f _ => !nd f
  | _ => true
/-- A call that waits for its function's end. -/
def DefN (d d' : Deferred) : Prop := DefR σ D d d' ∧ ndT d.target = true
/-- Function number f has a body, in both. -/
def Both (F' F : Array Func) (f : FuncId) : Prop := ∃ g' g c' c, F'[f]? = some g' ∧ F[f]? = some g ∧ g'.body = some c' ∧ g.body = some c
inductive NextR (F' F : Array Func) : Next → Next → Prop
  | value {v v' : Value} (h : VR σ D v v') : NextR F' F (.value v) (.value v')
  | skip : NextR F' F .skip .skip
  | enter (f : FuncId) (hk : Both F' F f) {a a' : Array Value} (h : VsR σ D a a') (h2 : nd f = true → a.size = 2) : NextR F' F (.enter f a) (.enter f a')
  | defer {d d' : Deferred} (h : DefN σ D d d') : NextR F' F (.defer d) (.defer d')
end
/-- What a function without a body does is served. -/
def ExtR (T : Tables) (e : Array Value → Sem Value) : Prop := ∀ (σ : Nat → Nat) (D : Nat → Prop) (F' F : Array Func) (args args' : Array Value), VsR σ D args args' → SRel σ D (⟨T, F'⟩ : Program) (⟨T, F⟩ : Program) (VR σ D) (e args) (e args')
/-- One function in the lone program and in the crowd's. -/
inductive FnR (T : Tables) : Func → Func → Prop
  | refused {f' f : Func} (hb : f'.body = none) (hn : (f'.name == "runtime.NumGoroutine") = false) (h1 : Extern.findNext f' = none) (h2 : Extern.find f' = none) (hi : f'.name.endsWith ".init" = false) : FnR T f' f
  | ext {f : Func} (hb : f.body = none) (hn : (f.name == "runtime.NumGoroutine") = false) {e : Array Value → Sem Value} (h1 : Extern.findNext f = none) (h2 : Extern.find f = some e) (he : ExtR T e) : FnR T f f
  | both {f' f : Func} {c' c : Code} (hb' : f'.body = some c') (hb : f.body = some c) (hn' : (f'.name == "runtime.NumGoroutine") = false) (hn : (f.name == "runtime.NumGoroutine") = false) : FnR T f' f
/-- The lone program's functions, and the crowd's. -/
def FsR (T : Tables) (F' F : Array Func) : Prop := ∀ (i : Nat) (f' : Func), F'[i]? = some f' → ∃ f, F[i]? = some f ∧ FnR T f' f
section
variable {σ : Nat → Nat} {D : Nat → Prop} {T : Tables} {F' F : Array Func}
theorem sr_callFunc (hF : FsR T F' F) (f : FuncId) {a a' : Array Value} (h2 : nd f = true → a.size = 2) (h : VsR σ D a a') : SRel σ D (⟨T, F'⟩ : Program) (⟨T, F⟩ : Program) (NextR σ D F' F) (callFunc f a) (callFunc f a') := by
  unfold callFunc
  refine sr_program ?_
  rcases hf : F'[f]? with _ | fn'
  · exact sr_stuck
  obtain ⟨fn, hfn, hr⟩ := hF f fn' hf
  rw [hfn]
  dsimp only
  cases hr with
  | refused hb hn h1 h2 hi =>
    rw [hn, hb]
    simp only [Bool.false_eq_true, if_false, Option.isNone_none, if_true]
    rw [h1, h2, hi]
    exact .dead (.mark (.halt trivial))
  | @ext hb hn e h1 h2 he =>
    rw [hn, hb]
    simp only [Bool.false_eq_true, if_false, Option.isNone_none, if_true]
    refine .mark (.extern f) ?_
    rw [h1, h2]
    exact (he σ D F' F a a' h).bind (fun v v' hv => sr_pure (.value hv))
  | both hb' hb hn' hn =>
    rw [hn', hn, hb', hb]
    simp only [Bool.false_eq_true, if_false, Option.isNone_some]
    exact sr_pure (.enter f ⟨_, _, _, _, hf, hfn, hb', hb⟩ h h2)
/-- What comes of a call that waited. -/
def NextD (σ : Nat → Nat) (D : Nat → Prop) (F' F : Array Func) (n n' : Next) : Prop := NextR σ D F' F n n' ∧ ndN n = true
theorem sr_callFuncD (hF : FsR T F' F) (f : FuncId) (h0 : nd f = false) {a a' : Array Value} (h : VsR σ D a a') : SRel σ D (⟨T, F'⟩ : Program) (⟨T, F⟩ : Program) (NextD σ D F' F) (callFunc f a) (callFunc f a') := by
  unfold callFunc
  refine sr_program ?_
  rcases hf : F'[f]? with _ | fn'
  · exact sr_stuck
  obtain ⟨fn, hfn, hr⟩ := hF f fn' hf
  rw [hfn]
  dsimp only
  cases hr with
  | refused hb hn h1 h2 hi =>
    rw [hn, hb]
    simp only [Bool.false_eq_true, if_false, Option.isNone_none, if_true]
    rw [h1, h2, hi]
    exact .dead (.mark (.halt trivial))
  | @ext hb hn e h1 h2 he =>
    rw [hn, hb]
    simp only [Bool.false_eq_true, if_false, Option.isNone_none, if_true]
    refine .mark (.extern f) ?_
    rw [h1, h2]
    exact (he σ D F' F a a' h).bind (fun v v' hv => sr_pure ⟨.value hv, rfl⟩)
  | both hb' hb hn' hn =>
    rw [hn', hn, hb', hb]
    simp only [Bool.false_eq_true, if_false, Option.isNone_some]
    exact sr_pure ⟨.enter f ⟨_, _, _, _, hf, hfn, hb', hb⟩ h (fun e => by rw [h0] at e; cases e), by simp [ndN, h0]⟩
theorem sr_vD {s s' : Sem Value} (h : SRel σ D (⟨T, F'⟩ : Program) (⟨T, F⟩ : Program) (VR σ D) s s') : SRel σ D (⟨T, F'⟩ : Program) (⟨T, F⟩ : Program) (NextD σ D F' F) (do Pure.pure (.value (← s)) : Sem Next) (do Pure.pure (.value (← s')) : Sem Next) := h.bind (fun a b hab => sr_pure ⟨.value hab, rfl⟩)
theorem sr_v {s s' : Sem Value} (h : SRel σ D (⟨T, F'⟩ : Program) (⟨T, F⟩ : Program) (VR σ D) s s') : SRel σ D (⟨T, F'⟩ : Program) (⟨T, F⟩ : Program) (NextR σ D F' F) (do Pure.pure (.value (← s)) : Sem Next) (do Pure.pure (.value (← s')) : Sem Next) := h.bind (fun a b hab => sr_pure (.value hab))
theorem sr_u {s s' : Sem Unit} (h : SRel σ D (⟨T, F'⟩ : Program) (⟨T, F⟩ : Program) (fun _ _ => True) s s') : SRel σ D (⟨T, F'⟩ : Program) (⟨T, F⟩ : Program) (NextR σ D F' F) (do s; Pure.pure .skip : Sem Next) (do s'; Pure.pure .skip : Sem Next) := h.bind (fun a b hab => sr_pure .skip)
theorem sr_builtin (hz : ZP T) (b : Builtin) (hb : okB b = true) (at' : Array TypeId) (t : TypeId) (cs : Array Bool) {a a' : Array Value} (h : VsR σ D a a') : SRel σ D (⟨T, F'⟩ : Program) (⟨T, F⟩ : Program) (NextR σ D F' F) (builtin b at' t cs a) (builtin b at' t cs a') := by
  cases b <;> first | (exact absurd (show false = true from hb) Bool.false_ne_true) | exact sr_v (sr_append hz at' t h) | exact sr_v (sr_cap at' t h) | exact sr_v (sr_copy at' t h) | exact sr_v (sr_len at' t h) | exact sr_v (sr_min at' t h) | exact sr_v (sr_unsafeSliceData at' t h) | exact sr_v (sr_unsafeString at' t h)
theorem sr_invoke (hz : ZP T) (hF : FsR T F' F) {t t' : Target} (ht : TgR σ D t t') {a a' : Array Value} (ha : VsR σ D a a') (hs : ∀ f c, t = .fn (.func f) c → nd f = true → a.size + c.size = 2) : SRel σ D (⟨T, F'⟩ : Program) (⟨T, F⟩ : Program) (NextR σ D F' F) (invoke t a) (invoke t' a') := by
  cases ht with
  | nil => exact sr_panicE .nilDeref rfl
  | builtin b hb at' t cs => exact sr_builtin hz b hb at' t cs ha
  | func f hc => exact sr_callFunc hF f (fun e => by rw [Array.size_append]; exact hs f _ rfl e) (ha.append hc)
theorem sr_builtinD (hz : ZP T) (b : Builtin) (hb : okB b = true) (at' : Array TypeId) (t : TypeId) (cs : Array Bool) {a a' : Array Value} (h : VsR σ D a a') : SRel σ D (⟨T, F'⟩ : Program) (⟨T, F⟩ : Program) (NextD σ D F' F) (builtin b at' t cs a) (builtin b at' t cs a') := by
  cases b <;> first | (exact absurd (show false = true from hb) Bool.false_ne_true) | exact sr_vD (sr_append hz at' t h) | exact sr_vD (sr_cap at' t h) | exact sr_vD (sr_copy at' t h) | exact sr_vD (sr_len at' t h) | exact sr_vD (sr_min at' t h) | exact sr_vD (sr_unsafeSliceData at' t h) | exact sr_vD (sr_unsafeString at' t h)
theorem sr_invokeD (hz : ZP T) (hF : FsR T F' F) {t t' : Target} (ht : TgR σ D t t') (hn : ndT t = true) {a a' : Array Value} (ha : VsR σ D a a') : SRel σ D (⟨T, F'⟩ : Program) (⟨T, F⟩ : Program) (NextD σ D F' F) (invoke t a) (invoke t' a') := by
  cases ht with
  | nil => exact sr_panicE .nilDeref rfl
  | builtin b hb at' t cs => exact sr_builtinD hz b hb at' t cs ha
  | func f hc => exact sr_callFuncD hF f (by simpa [ndT] using hn) (ha.append hc)
/-- Two readings of operands. -/
def RhoR (σ : Nat → Nat) (D : Nat → Prop) (ρ ρ' : Operand → Value) : Prop := (∀ x, okOpd x = true → VR σ D (ρ x) (ρ' x)) ∧ ∀ f, ρ (.func f) = .func (.func f) #[] #[] ∧ ρ' (.func f) = .func (.func f) #[] #[]
theorem rho_all {ρ ρ' : Operand → Value} (hr : RhoR σ D ρ ρ') {xs : Array Operand} (h : xs.all okOpd = true) : VsR σ D (xs.map ρ) (xs.map ρ') := by
  rw [Array.all_eq_true_iff_forall_mem] at h
  refine ⟨by simp, fun i x y hx hy => ?_⟩
  simp only [Array.getElem?_map, Option.map_eq_some_iff] at hx hy
  obtain ⟨a, ha, rfl⟩ := hx
  obtain ⟨b, hb, rfl⟩ := hy
  rw [ha] at hb
  cases hb
  exact hr.1 a (h a (Array.mem_of_getElem? ha))
theorem rho_opt {ρ ρ' : Operand → Value} (hr : RhoR σ D ρ ρ') {x : Option Operand} (h : x.all okOpd = true) : OptR (VR σ D) (x.map ρ) (x.map ρ') := by
  cases x with
  | none => exact .none
  | some x => exact .some (hr.1 x (by simpa using h))
theorem rho_parts {ρ ρ' : Operand → Value} (hr : RhoR σ D ρ ρ') {ps : Array (Nat × Operand)} (h : ps.all (fun p => okOpd p.2) = true) : PsR σ D (ps.map fun (i, x) => (i, ρ x)) (ps.map fun (i, x) => (i, ρ' x)) := by
  rw [Array.all_eq_true_iff_forall_mem] at h
  refine ⟨by simp, fun i x y hx hy => ?_⟩
  simp only [Array.getElem?_map, Option.map_eq_some_iff] at hx hy
  obtain ⟨a, ha, rfl⟩ := hx
  obtain ⟨b, hb, rfl⟩ := hy
  rw [ha] at hb
  cases hb
  exact ⟨rfl, hr.1 _ (h a (Array.mem_of_getElem? ha))⟩
theorem sr_resolve {ρ ρ' : Operand → Value} (hr : RhoR σ D ρ ρ') {c : Call} (h : okCall c = true) (t : TypeId) : SRel σ D (⟨T, F'⟩ : Program) (⟨T, F⟩ : Program) (DefR σ D) (resolve ρ c t) (resolve ρ' c t) := by
  obtain ⟨callee, args, at'⟩ := c
  unfold okCall at h
  simp only [Bool.and_eq_true] at h
  have ha := rho_all hr h.1
  unfold resolve
  cases callee with
  | builtin b => exact sr_pure (.mk (.builtin b h.2 at' t _) ha (fun _ _ e => by cases e))
  | invoke r m => cases h.2
  | value f =>
    by_cases hs : ∃ k, f = .func k
    · obtain ⟨k, rfl⟩ := hs
      dsimp only
      unfold Deferred.ofValue
      rw [(hr.2 k).1, (hr.2 k).2]
      exact sr_pure (.mk (.func k ⟨rfl, fun i x y hx => by simp at hx⟩) (VsR.append ⟨rfl, fun i x y hx => by simp at hx⟩ ha) (fun f c e hn => by
        cases e
        have := h.2
        simp only [Bool.and_eq_true] at this
        have h3 := this.2
        change (!nd k || args.size == 2) = true at h3
        rw [hn] at h3
        simpa using h3))
    have hf := hr.1 f (by
      have h3 := h.2
      simp only [Bool.and_eq_true] at h3
      cases f <;> first | exact h3.1 | exact absurd ⟨_, rfl⟩ hs)
    dsimp only
    unfold Deferred.ofValue
    revert hf
    generalize ρ f = v
    generalize ρ' f = v'
    intro hf
    cases hf with
    | func fn h1 h2 h3 h4 h0 => exact sr_pure (.mk (.func fn ⟨h3, h4⟩) (VsR.append ⟨h1, h2⟩ ha) (fun f c e hn => by cases e; rw [h0] at hn; cases hn))
    | weird m f c => exact sr_pure (.weird _ _ m c _)
    | nilf => exact sr_pure (.mk .nil ha (fun _ _ e => by cases e))
    | _ => exact sr_stuck
theorem sr_resolveN {ρ ρ' : Operand → Value} (hr : RhoR σ D ρ ρ') {c : Call} (h : okCall c = true) (hd : okDef c = true) (t : TypeId) : SRel σ D (⟨T, F'⟩ : Program) (⟨T, F⟩ : Program) (DefN σ D) (resolve ρ c t) (resolve ρ' c t) := by
  obtain ⟨callee, args, at'⟩ := c
  unfold okCall at h
  simp only [Bool.and_eq_true] at h
  have ha := rho_all hr h.1
  unfold resolve
  cases callee with
  | builtin b => exact sr_pure ⟨.mk (.builtin b h.2 at' t _) ha (fun _ _ e => by cases e), rfl⟩
  | invoke r m => cases h.2
  | value f =>
    have hf := hr.1 f hd
    dsimp only
    unfold Deferred.ofValue
    revert hf
    generalize ρ f = v
    generalize ρ' f = v'
    intro hf
    cases hf with
    | func fn h1 h2 h3 h4 h0 => exact sr_pure ⟨.mk (.func fn ⟨h3, h4⟩) (VsR.append ⟨h1, h2⟩ ha) (fun f c e hn => by cases e; rw [h0] at hn; cases hn), by simp [ndT, h0]⟩
    | weird m f c => exact sr_pure ⟨.weird _ _ m c _, rfl⟩
    | nilf => exact sr_pure ⟨.mk .nil ha (fun _ _ e => by cases e), rfl⟩
    | _ => exact sr_stuck
/-- Whoever looks for such a method is stuck. -/
theorem sr_weird {α β : Type} {R : α → β → Prop} (hz : ZP T) (v : Value) (n : Nat) {k : Option Bool → Sem α} (hk : Dead (k none)) {s' : Sem β} : SRel σ D (⟨T, F'⟩ : Program) (⟨T, F⟩ : Program) R (nilAhead n wkT v "" >>= k) s' := by
  cases n with
  | zero => exact .dead hk
  | succ n =>
    unfold nilAhead typeInfo
    refine .progl ?_
    have h2 := hz.2
    simp only [Sem.bind]
    rcases hi : T.info? wkT with _ | i
    · exact .dead (.halt trivial)
    · show SRel σ D _ _ R (Sem.bind (Sem.bind (Sem.pure i) _) k) s'
      simp only [Sem.bind, h2 i hi]
      exact .dead (.halt trivial)
/-- A call of such a method. -/
theorem sr_weirdCall {β : Type} {R : Next → β → Prop} (hz : ZP T) (v : Value) (a : Array Value) {s' : Sem β} : SRel σ D (⟨T, F'⟩ : Program) (⟨T, F⟩ : Program) R (invoke (.fn (.method "") #[]) (#[.iface wkT v] ++ a)) s' := by
  unfold invoke
  have e : (#[Value.iface wkT v] ++ a)[0]? = some (.iface wkT v) := by simp [Array.getElem?_append]
  dsimp only
  rw [e]
  dsimp only
  unfold callMethod
  dsimp only
  refine .progl ?_
  simp only [Sem.bind]
  generalize (⟨T, F'⟩ : Program).types.size + Made.depth = n
  cases n with
  | zero => exact .dead (.halt trivial)
  | succ n =>
    unfold method typeInfo
    refine .progl ?_
    have h2 := hz.2
    simp only [Sem.bind]
    rcases hi : T.info? wkT with _ | i
    · exact .dead (.halt trivial)
    · show SRel σ D _ _ R (Sem.bind (Sem.bind (Sem.pure i) _) _) s'
      simp only [Sem.bind, h2 i hi]
      exact .dead (.halt trivial)
theorem sr_nilCheck (hz : ZP T) {ρ ρ' : Operand → Value} (hr : RhoR σ D ρ ρ') {x : Operand} (h : okOpd x = true) (o : Oper) (ho : o.op = .nilCheck x) : SRel σ D (⟨T, F'⟩ : Program) (⟨T, F⟩ : Program) (NextR σ D F' F) (execOp ρ o) (execOp ρ' o) := by
  unfold execOp
  rw [ho]
  dsimp only
  have hx := hr.1 x h
  revert hx
  generalize ρ x = v
  generalize ρ' x = v'
  intro hx
  cases hx with
  | nilp => exact sr_panicE .nilDeref rfl
  | nili => exact sr_panicE .nilDeref rfl
  | nilf => exact sr_panicE .nilDeref rfl
  | undef v hv =>
    refine (show SRel σ D (⟨T, F'⟩ : Program) (⟨T, F⟩ : Program) (NextR σ D F' F) (Pure.pure (.value (.tuple #[]))) _ from ?_)
    split <;> first | (simp [okU] at hv; done) | exact sr_pure (.value (.undef _ hv))
  | func fn h1 h2 h3 h4 h0 => exact sr_pure (.value (.func fn h1 h2 h3 h4 h0))
  | weird m f c =>
    refine .progl ?_
    refine sr_weird hz _ _ ?_
    exact Dead.halt (h := .unsupported (.noEntry "op/nilCheck.the method's receiver behind this interface value is a nil pointer, or cannot be seen to be none, and the arguments act or may panic (ledger 612)")) trivial
  | bool b => exact sr_pure (.value (.bool b))
  | int k n => exact sr_pure (.value (.int k n))
  | float k n => exact sr_pure (.value (.float k n))
  | complex k n m => exact sr_pure (.value (.complex k n m))
  | string s => exact sr_pure (.value (.string s))
  | ptr h => exact sr_pure (.value (.ptr h))
  | nils l c => exact sr_pure (.value (.nils l c))
  | slice h l c => exact sr_pure (.value (.slice h l c))
  | nilm => exact sr_pure (.value .nilm)
  | map h => exact sr_pure (.value (.map h))
  | nilc => exact sr_pure (.value .nilc)
  | iface t h => exact sr_pure (.value (.iface t h))
  | agg h1 h2 => exact sr_pure (.value (.agg h1 h2))
  | tuple h1 h2 => exact sr_pure (.value (.tuple h1 h2))
/-- What is asked of the table of types. -/
structure TabOk (T : Tables) : Prop where
  zero : ZP T
theorem sr_execOp (hz : ZP T) (hF : FsR T F' F) (hinj : Inj σ D) (hG : Glob σ D T) {ρ ρ' : Operand → Value} (hr : RhoR σ D ρ ρ') (o : Oper) (ho : okOp T o.op = true) : SRel σ D (⟨T, F'⟩ : Program) (⟨T, F⟩ : Program) (NextR σ D F' F) (execOp ρ o) (execOp ρ' o) := by
  obtain ⟨dst, op, type, pos, after, guard⟩ := o
  dsimp only at ho
  cases op <;> first | (exact absurd (show false = true from ho) Bool.false_ne_true) | skip
  case move x => exact sr_pure (.value (hr.1 x ho))
  case assign x => exact sr_pure (.value (hr.1 x ho))
  case pick c a b =>
    simp only [okOp, Bool.and_eq_true] at ho
    refine (sr_asBool (hr.1 c ho.1.1)).bind (fun x y e => ?_)
    subst e
    cases x
    · exact sr_pure (.value (hr.1 b ho.2))
    · exact sr_pure (.value (hr.1 a ho.1.2))
  case alloc t => exact sr_v (sr_alloc hz t)
  case box t x => exact sr_v (sr_box t (hr.1 x ho))
  case build t ps => exact sr_v (sr_build hz t (rho_parts hr ho))
  case buildSlice t n ps => exact sr_v (sr_buildSlice hz t n (rho_parts hr ho))
  case load t x => exact sr_v (sr_loadAt t (hr.1 x ho))
  case store t a x =>
    simp only [okOp, Bool.and_eq_true] at ho
    exact sr_u (sr_storeAt t (hr.1 a ho.1) (hr.1 x ho.2))
  case nilCheck x => exact sr_nilCheck hz hr ho _ rfl
  case binOp op xt x y yt =>
    simp only [okOp, Bool.and_eq_true] at ho
    exact sr_v ((sr_eqGuard op xt x y (hr.1 x ho.1) (hr.1 y ho.2)).bind (fun _ _ _ => sr_binOp hinj hG op xt (hr.1 x ho.1) (hr.1 y ho.2)))
  case unOp op t x => exact sr_v (sr_unary op (hr.1 x ho))
  case convert s d x =>
    simp only [okOp, Bool.and_eq_true] at ho
    exact sr_v (sr_convert ho.1 (hr.1 x ho.2))
  case makeInterface t x => exact sr_v (sr_makeIface t (hr.1 x ho))
  case makeFunc fn a b =>
    simp only [okOp, Bool.and_eq_true] at ho
    cases fn <;> first | (exact absurd (show false = true from ho.1.1) Bool.false_ne_true) | skip
    exact sr_v (sr_makeFunc _ (by simpa [okFn] using ho.1.1) (rho_all hr ho.1.2) (rho_all hr ho.2))
  case makeSlice t a x =>
    simp only [okOp, Bool.and_eq_true] at ho
    exact sr_v (sr_makeSlice hz t (hr.1 a ho.1) (hr.1 x ho.2))
  case slice t x l h m =>
    simp only [okOp, Bool.and_eq_true] at ho
    exact sr_v (sr_sliceAt t (hr.1 x ho.1.1.1) (rho_opt hr ho.1.1.2) (rho_opt hr ho.1.2) (rho_opt hr ho.2))
  case fieldAddr t x i => exact sr_v (sr_fieldAt t (hr.1 x ho) i)
  case field t x i => exact sr_v (sr_field t (hr.1 x ho) i)
  case indexAddr t a x =>
    simp only [okOp, Bool.and_eq_true] at ho
    exact sr_v (sr_index t (hr.1 a ho.1) (hr.1 x ho.2))
  case index t a x =>
    simp only [okOp, Bool.and_eq_true] at ho
    exact sr_v (sr_idx t (hr.1 a ho.1) (hr.1 x ho.2))
  case extract x i => exact sr_v (sr_extract (hr.1 x ho) i)
  case call c =>
    refine (sr_resolve hr ho type).bind (fun d d' hd => ?_)
    cases hd with
    | mk ht ha hs => exact sr_invoke hz hF ht ha hs
    | weird v a m c b => exact sr_weirdCall hz v a
  case defer c =>
    simp only [okOp, Bool.and_eq_true] at ho
    exact (sr_resolveN hr ho.1 ho.2 type).bind (fun d d' hd => sr_pure (.defer hd))
end
end Go.Proofs.Ytgfgoflhmikalaa.par

namespace Go.Proofs.Ytgfgoflhmikalaa.par
open Go
set_option linter.unusedVariables false
set_option linter.unusedSimpArgs false
/-- Two lists, place by place. -/
inductive LR {α β : Type} (R : α → β → Prop) : List α → List β → Prop
  | nil : LR R [] []
  | cons {a : α} {b : β} {l : List α} {m : List β} (h : R a b) (t : LR R l m) : LR R (a :: l) (b :: m)
theorem LR.mono {α β : Type} {R S : α → β → Prop} {l : List α} {m : List β} (h : LR R l m) (hs : ∀ a b, R a b → S a b) : LR S l m := by
  induction h with
  | nil => exact .nil
  | cons h _ ih => exact .cons (hs _ _ h) ih
theorem LR.append {α β : Type} {R : α → β → Prop} {l l2 : List α} {m m2 : List β} (h : LR R l m) (k : LR R l2 m2) : LR R (l ++ l2) (m ++ m2) := by
  induction h with
  | nil => exact k
  | cons h _ ih => exact .cons h ih
/-- The lone program's code is the crowd's, pieces of it refused. -/
inductive CodeR (T : Tables) : Code → Code → Prop
  | refuse (why : String) (c : Code) : CodeR T (.refuse why) c
  | skip : CodeR T .skip .skip
  | ret : CodeR T .ret .ret
  | label (l : Nat) : CodeR T (.label l) (.label l)
  | exit (id : Nat) : CodeR T (.exit id) (.exit id)
  | region (id : Nat) {ops : Array Oper} (draw : Bool) (h : ∀ o ∈ ops, okOp T o.op = true) : CodeR T (.region id ops draw) (.region id ops draw)
  | seq {a b a' b' : Code} (h : CodeR T a a') (k : CodeR T b b') : CodeR T (.seq a b) (.seq a' b')
  | cond {c : Operand} (hc : okOpd c = true) {a b a' b' : Code} (h : CodeR T a a') (k : CodeR T b b') : CodeR T (.cond c a b) (.cond c a' b')
  | block (id : Nat) {a a' : Code} (h : CodeR T a a') : CodeR T (.block id a) (.block id a')
  | loop {a a' : Code} (h : CodeR T a a') : CodeR T (.loop a) (.loop a')
  | scope {a a' : Code} (h : CodeR T a a') : CodeR T (.scope a) (.scope a')
inductive ItemR (T : Tables) : Item → Item → Prop
  | code {c c' : Code} (h : CodeR T c c') : ItemR T (.code c) (.code c')
  | inBlock (id : Nat) : ItemR T (.inBlock id) (.inBlock id)
  | inLoop {c c' : Code} (h : CodeR T c c') : ItemR T (.inLoop c) (.inLoop c')
  | inScope {c c' : Code} (h : CodeR T c c') : ItemR T (.inScope c) (.inScope c')
  | inRegion {ops : Array Oper} (h : ∀ o ∈ ops, okOp T o.op = true) (todo : List Nat) : ItemR T (.inRegion ops todo) (.inRegion ops todo)
/-- One function with a body, in the lone program and in the crowd's: its code, unless it is special. -/
structure BodR (T : Tables) (Sp : FuncId → Prop) (F' F : Array Func) : Prop where
  fs : FsR T F' F
  body : ∀ (i : Nat) (f' f : Func) (c' c : Code), ¬ Sp i → F'[i]? = some f' → F[i]? = some f → f'.body = some c' → f.body = some c → CodeR T c' c ∧ f'.ntmps = f.ntmps ∧ f'.results = f.results
section
variable (σ : Nat → Nat) (D : Nat → Prop)
inductive PeR : PanicEntry → PanicEntry → Prop
  | mk {v v' : Value} (h : VR σ D v v') : PeR { v := v, recovered := false } { v := v', recovered := false }
inductive ModeR : FrameMode → FrameMode → Prop
  | run : ModeR .run .run
  | returning : ModeR .returning .returning
  | panicking {c c' : List PanicEntry} (h : LR (PeR σ D) c c') : ModeR (.panicking c) (.panicking c')
structure FrR (T : Tables) (Sp : FuncId → Prop) (F' F : Array Func) (fr' fr : Frame) : Prop where
  fn : fr'.fn = fr.fn
  tmps : VsR σ D fr'.tmps fr.tmps
  todo : LR (ItemR T) fr'.todo fr.todo
  defers : LR (DefN σ D) fr'.defers fr.defers
  mode : ModeR σ D fr'.mode fr.mode
  kind : fr'.kind = fr.kind
  kinds : fr.kind = .normal ∨ fr.kind = .deferred
  round' : fr'.roundOf = none
  round : fr.roundOf = none
  known : ∃ f' f, F'[fr.fn]? = some f' ∧ F[fr.fn]? = some f ∧ f'.results = f.results
end
section
variable {σ σ1 : Nat → Nat} {D D1 : Nat → Prop}
/-- What the relation may name grows. -/
def Up (σ : Nat → Nat) (D : Nat → Prop) (σ1 : Nat → Nat) (D1 : Nat → Prop) : Prop := ∀ r, D r → D1 r ∧ σ1 r = σ r
theorem AR.up (h : Up σ D σ1 D1) {a a' : Addr} (ha : AR σ D a a') : AR σ1 D1 a a' := ⟨(h _ ha.1).1, by rw [(h _ ha.1).2]; exact ha.2⟩
theorem VR.up (h : Up σ D σ1 D1) {v v' : Value} (hv : VR σ D v v') : VR σ1 D1 v v' := by
  induction hv with
  | undef v hv => exact .undef v hv
  | bool b => exact .bool b
  | int k n => exact .int k n
  | float k n => exact .float k n
  | complex k n m => exact .complex k n m
  | string s => exact .string s
  | nilp => exact .nilp
  | ptr ha => exact .ptr (ha.up h)
  | nils l c => exact .nils l c
  | slice ha l c => exact .slice (ha.up h) l c
  | nilm => exact .nilm
  | map hr => rw [← (h _ hr).2]; exact .map (h _ hr).1
  | nilc => exact .nilc
  | func fn h1 _ h3 _ h0 ih1 ih2 => exact .func fn h1 ih1 h3 ih2 h0
  | weird m f c => exact .weird m f c
  | nilf => exact .nilf
  | iface t _ ih => exact .iface t ih
  | nili => exact .nili
  | agg h1 _ ih => exact .agg h1 ih
  | tuple h1 _ ih => exact .tuple h1 ih
theorem VsR.up (h : Up σ D σ1 D1) {c c' : Array Value} (hc : VsR σ D c c') : VsR σ1 D1 c c' := ⟨hc.1, fun i x y hx hy => (hc.2 i x y hx hy).up h⟩
theorem OR.up (h : Up σ D σ1 D1) {o o' : Obj} (ho : OR σ D o o') : OR σ1 D1 o o' := by
  cases ho with
  | cells hc e f => exact .cells (VsR.up h hc) e f
  | view ha t => exact .view (ha.up h) t
  | number ha l => exact .number (ha.up h) l
theorem TgR.up (h : Up σ D σ1 D1) {t t' : Target} (ht : TgR σ D t t') : TgR σ1 D1 t t' := by
  cases ht with
  | func f hc => exact .func f (VsR.up h hc)
  | nil => exact .nil
  | builtin b hb at' t cs => exact .builtin b hb at' t cs
theorem DefR.up (h : Up σ D σ1 D1) {d d' : Deferred} (hd : DefR σ D d d') : DefR σ1 D1 d d' := by
  cases hd with
  | mk ht ha hs => exact .mk (ht.up h) (VsR.up h ha) hs
  | weird v a m c b => exact .weird v a m c b
theorem DefN.up (h : Up σ D σ1 D1) {d d' : Deferred} (hd : DefN σ D d d') : DefN σ1 D1 d d' := ⟨hd.1.up h, hd.2⟩
theorem PeR.up (h : Up σ D σ1 D1) {d d' : PanicEntry} (hd : PeR σ D d d') : PeR σ1 D1 d d' := by
  cases hd with
  | mk hv => exact .mk (hv.up h)
theorem ModeR.up (h : Up σ D σ1 D1) {d d' : FrameMode} (hd : ModeR σ D d d') : ModeR σ1 D1 d d' := by
  cases hd with
  | run => exact .run
  | returning => exact .returning
  | panicking hc => exact .panicking (hc.mono fun _ _ x => x.up h)
theorem FrR.up (h : Up σ D σ1 D1) {T : Tables} {Sp : FuncId → Prop} {F' F : Array Func} {f' f : Frame} (hf : FrR σ D T Sp F' F f' f) : FrR σ1 D1 T Sp F' F f' f :=
  ⟨hf.fn, VsR.up h hf.tmps, hf.todo, hf.defers.mono fun _ _ x => x.up h, hf.mode.up h, hf.kind, hf.kinds, hf.round', hf.round, hf.known⟩
end
/-- What is held of the two worlds, beside their relation: only what is there may be named. -/
structure Sit (σ : Nat → Nat) (D : Nat → Prop) (T : Tables) (W0 u w : World) : Prop where
  wr : WR σ D W0 u w
  inj : Inj σ D
  glob : Glob σ D T
  bound : ∀ r, D r → r < u.heap.size
  gu : T.globals.size ≤ u.heap.size
  gw : T.globals.size ≤ w.heap.size
section
variable {σ : Nat → Nat} {D : Nat → Prop} {T : Tables} {W0 u w : World}
/-- k blocks more. -/
def exσ (σ : Nat → Nat) (n m : Nat) : Nat → Nat := fun r => if r < n then σ r else m + (r - n)
def exD (D : Nat → Prop) (n k : Nat) : Nat → Prop := fun r => D r ∨ (n ≤ r ∧ r < n + k)
theorem Sit.up (h : Sit σ D T W0 u w) (k : Nat) : Up σ D (exσ σ u.heap.size w.heap.size) (exD D u.heap.size k) := fun r hr => ⟨.inl hr, if_pos (h.bound r hr)⟩
theorem Sit.old (h : Sit σ D T W0 u w) {r : Nat} (hr : D r) : σ r < w.heap.size := by
  have hlt := h.bound r hr
  obtain ⟨o', ho, _⟩ := h.wr.obj r _ hr (Array.getElem?_eq_getElem hlt)
  exact (Array.getElem?_eq_some_iff.1 ho).1
theorem Sit.inj_ex (h : Sit σ D T W0 u w) (k : Nat) : Inj (exσ σ u.heap.size w.heap.size) (exD D u.heap.size k) := by
  intro r r' hr hr' e
  unfold exσ at e
  rcases hr with hr | ⟨h1, h2⟩ <;> rcases hr' with hr' | ⟨h3, h4⟩
  · rw [if_pos (h.bound r hr), if_pos (h.bound r' hr')] at e
    exact h.inj r r' hr hr' e
  · rw [if_pos (h.bound r hr), if_neg (by omega)] at e
    have := h.old hr
    omega
  · rw [if_neg (by omega), if_pos (h.bound r' hr')] at e
    have := h.old hr'
    omega
  · rw [if_neg (by omega), if_neg (by omega)] at e
    omega
theorem Sit.glob_ex (h : Sit σ D T W0 u w) (k : Nat) : Glob (exσ σ u.heap.size w.heap.size) (exD D u.heap.size k) T := by
  intro r hr
  unfold exσ
  rcases hr with hr | ⟨h1, h2⟩
  · rw [if_pos (h.bound r hr)]; exact h.glob r hr
  · rw [if_neg (by omega)]
    have := h.gu
    have := h.gw
    omega
theorem Sit.wr_ex (h : Sit σ D T W0 u w) (k : Nat) : WR (exσ σ u.heap.size w.heap.size) (exD D u.heap.size k) W0 u w := by
  have hu := h.up k
  refine ⟨fun r o hr ho => ?_, fun r hr hle => ?_, h.wr.low, fun a ha hlt z hz hc => ?_⟩
  · rcases hr with hr | ⟨h1, h2⟩
    · obtain ⟨o', h1, h2⟩ := h.wr.obj r o hr ho
      exact ⟨o', by rw [(hu r hr).2]; exact h1, h2.up hu⟩
    · have := (Array.getElem?_eq_some_iff.1 ho).1
      omega
  · unfold exσ
    rcases hr with hr | ⟨h1, h2⟩
    · have := h.bound r hr; omega
    · rw [if_neg (by omega)]; omega
  · rcases ha with ha | ⟨h1, h2⟩
    · rw [(hu _ ha).2]; exact h.wr.orig a ha hlt z hz hc
    · have := h.wr.low; omega
end
end Go.Proofs.Ytgfgoflhmikalaa.par

namespace Go.Proofs.Ytgfgoflhmikalaa.par
open Go Go.Conc
set_option linter.unusedVariables false
set_option linter.unusedSimpArgs false
/-- What the relation does not serve is refused. -/
def pr (T : Tables) : Code → Code
  | .skip => .skip
  | .ret => .ret
  | .label l => .label l
  | .exit id => .exit id
  | .region id ops draw => if ops.all (fun o => okOp T o.op) then .region id ops draw else .refuse "pruned"
  | .seq a b => .seq (pr T a) (pr T b)
  | .cond c a b => if okOpd c then .cond c (pr T a) (pr T b) else .refuse "pruned"
  | .block id a => .block id (pr T a)
  | .loop a => .loop (pr T a)
  | .scope a => .scope (pr T a)
  | .refuse m => .refuse m
  | _ => .refuse "pruned"
theorem pr_rel (T : Tables) : ∀ c : Code, CodeR T (pr T c) c := by
  intro c
  induction c with
  | skip => exact .skip
  | ret => exact .ret
  | label l => exact .label l
  | exit id => exact .exit id
  | region id ops draw =>
    unfold pr
    by_cases h : ops.all (fun o => okOp T o.op) = true
    · rw [if_pos h]
      rw [Array.all_eq_true_iff_forall_mem] at h
      exact .region id draw h
    · rw [if_neg h]; exact .refuse _ _
  | seq a b ha hb => exact .seq ha hb
  | cond c a b ha hb =>
    unfold pr
    by_cases h : okOpd c = true
    · rw [if_pos h]; exact .cond h ha hb
    · rw [if_neg h]; exact .refuse _ _
  | block id a ha => exact .block id ha
  | loop a ha => exact .loop ha
  | scope a ha => exact .scope ha
  | refuse m => exact .refuse _ _
  | _ => exact .refuse _ _
end Go.Proofs.Ytgfgoflhmikalaa.par

namespace Go.Proofs.Ytgfgoflhmikalaa.par
open Go
set_option linter.unusedVariables false
set_option linter.unusedSimpArgs false
def InfoOk (i : TypeInfo) : Prop := ∀ v, i.zero = some v → SelfV v
theorem self_cells {v : Value} (h : SelfV v) : ∀ x ∈ v.cells, SelfV x := by
  intro x hx σ D
  obtain ⟨i, hi⟩ := Array.mem_iff_getElem?.1 hx
  exact (cells_rel (h σ D)).2 i x x hi hi
theorem self_agg {c : Array Value} (h : ∀ x ∈ c, SelfV x) : SelfV (.agg c) := fun σ D => .agg rfl fun i x y hx hy => by
  rw [hx] at hy
  cases hy
  exact h x (Array.mem_of_getElem? hx) σ D
/-- What a walk over a list in Option keeps. -/
theorem forIn_keeps {α β : Type} {P : β → Prop} {f : α → β → Option (ForInStep β)} (hf : ∀ a b s, f a b = some s → P b → P (match s with | .done c => c | .yield c => c)) : ∀ (l : List α) (b r : β), forIn l b f = some r → P b → P r := by
  intro l
  induction l with
  | nil => intro b r h hb; simp at h; exact h ▸ hb
  | cons a l ih =>
    intro b r h hb
    simp only [List.forIn_cons] at h
    cases hs : f a b with
    | none => rw [hs] at h; simp at h
    | some s =>
      rw [hs] at h
      have h1 := hf a b s hs hb
      cases s with
      | done c => simp at h; exact h ▸ h1
      | yield c => exact ih c r (by simpa using h) h1
theorem word_ok {d : TypeDesc} {s : String} {z : Value} {c : Bool} {n : Nat} (hz : SelfV z) : InfoOk (Made.word d s z c n) := fun v hv => by
  cases hv
  exact hz
theorem struct_ok {info : TypeId → Option TypeInfo} (hi : ∀ t i, info t = some i → InfoOk i) {fs : Array Field} {i : TypeInfo} (h : Made.reckonStruct info fs = some i) : InfoOk i := by
  unfold Made.reckonStruct at h
  simp only [Option.bind_eq_bind, Option.bind_eq_some_iff, Option.pure_def] at h
  obtain ⟨r, h1, h2⟩ := h
  rw [← Array.forIn_toList] at h1
  have hz : ∀ c, r.2.2.2.2.2.2.2.1 = some c → ∀ x ∈ c, SelfV x := by
    refine forIn_keeps (P := fun r => ∀ c, r.2.2.2.2.2.2.2.1 = some c → ∀ x ∈ c, SelfV x) (fun f b s hs hb => ?_) _ _ r h1 (fun c hc x hx => ?_)
    · obtain ⟨j, hj, hs⟩ := Option.bind_eq_some_iff.1 hs
      have key : ∀ c, (if b.2.1 + j.size > Made.mostCells then none else b.2.2.2.2.2.2.2.1.bind fun x => j.zero.bind fun y => some (x ++ y.cells)) = some c → ∀ x ∈ c, SelfV x := by
        intro c hc
        split at hc
        · cases hc
        · obtain ⟨x, hx, hc⟩ := Option.bind_eq_some_iff.1 hc
          obtain ⟨y, hy, hc⟩ := Option.bind_eq_some_iff.1 hc
          cases hc
          intro v hv
          rcases Array.mem_append.1 hv with h3 | h3
          · exact hb x hx v h3
          · exact self_cells (hi _ _ hj y hy) v h3
      split at hs
      · simp at hs
      split at hs
      · simp at hs
      split at hs
      all_goals
        obtain ⟨tag, _, hs⟩ := Option.bind_eq_some_iff.1 hs
        split at hs
        all_goals
          cases hs
          exact key
    · cases hc
      simp at hx
  have fin : ∀ v, Option.map Value.agg r.2.2.2.2.2.2.2.1 = some v → SelfV v := by
    intro v hv
    obtain ⟨c, hc, rfl⟩ := Option.map_eq_some_iff.1 hv
    exact self_agg (hz c hc)
  split at h2
  all_goals
    cases h2
    exact fin
theorem reckon_ok {info : TypeId → Option TypeInfo} (hi : ∀ t i, info t = some i → InfoOk i) {d : TypeDesc} {i : TypeInfo} (h : Made.reckon info d = some i) : InfoOk i := by
  unfold Made.reckon at h
  cases d with
  | struct fs => exact struct_ok hi h
  | array n e =>
    simp only [Option.bind_eq_bind, Option.bind_eq_some_iff, Option.pure_def, Option.some.injEq] at h
    obtain ⟨j, h1, s, h2, rfl⟩ := h
    intro v hv
    dsimp only at hv
    split at hv
    · cases hv
    · split at hv
      · cases hv; exact self_agg (by simp)
      · obtain ⟨z, hz, rfl⟩ := Option.map_eq_some_iff.1 hv
        refine self_agg fun x hx => ?_
        obtain ⟨c, hc, hx⟩ := Array.mem_flatten.1 hx
        obtain rfl := (Array.mem_replicate.1 hc).2
        exact self_cells (hi _ _ h1 z hz) x hx
  | pointer e =>
    simp only [Option.bind_eq_bind, Option.bind_eq_some_iff, Option.pure_def, Option.some.injEq, reduceCtorEq] at h
    obtain ⟨j, h1, h2⟩ := h
    split at h2
    · cases h2
    · split at h2
      · cases h2
      · obtain ⟨s, _, h3⟩ := Option.bind_eq_some_iff.1 h2
        cases h3
        exact word_ok fun σ D => .nilp
    · obtain ⟨s, _, h3⟩ := Option.bind_eq_some_iff.1 h2
      cases h3
      exact word_ok fun σ D => .nilp
  | slice e =>
    simp only [Option.bind_eq_bind, Option.bind_eq_some_iff, Option.pure_def, Option.some.injEq, reduceCtorEq] at h
    obtain ⟨_, _, _, _, rfl⟩ := h
    exact word_ok fun σ D => .nils 0 0
  | map k e =>
    simp only [Option.bind_eq_bind, Option.bind_eq_some_iff, Option.pure_def, Option.some.injEq, reduceCtorEq] at h
    obtain ⟨_, _, _, _, _, _, _, _, rfl⟩ := h
    exact word_ok fun σ D => .nilm
  | chan dir e =>
    simp only [Option.bind_eq_bind, Option.bind_eq_some_iff, Option.pure_def, Option.some.injEq, reduceCtorEq] at h
    obtain ⟨_, _, _, _, rfl⟩ := h
    exact word_ok fun σ D => .nilc
  | func ps rs v =>
    simp only [Option.bind_eq_bind, Option.bind_eq_some_iff, Option.pure_def, Option.some.injEq, reduceCtorEq] at h
    obtain ⟨_, _, rfl⟩ := h
    exact word_ok fun σ D => .nilf
  | _ => first | cases h | (dsimp only at h; cases h)
theorem made_ok (T : Tables) (hT : ∀ (t : Nat) (i : TypeInfo), T.types[t]? = some i → InfoOk i) : ∀ (n : Nat) (t : TypeId) (i : TypeInfo), Made.infoAt T n t = some i → InfoOk i := by
  intro n
  induction n with
  | zero => intro t i h; simp [Made.infoAt] at h
  | succ n ih =>
    intro t i h
    unfold Made.infoAt at h
    split at h
    · exact hT t i h
    · obtain ⟨d, _, h2⟩ := Option.bind_eq_some_iff.1 h
      exact reckon_ok ih h2
theorem zp_of (T : Tables) (hT : ∀ (t : Nat) (i : TypeInfo), T.types[t]? = some i → InfoOk i) (hw : ∀ i, T.info? wkT = some i → i.methods.find? (fun m => m.name == "") = none) : ZP T := by
  refine ⟨?_, hw⟩
  intro t i v h hv
  unfold Tables.info? at h
  split at h
  · exact hT t i h v hv
  · exact made_ok T hT _ t i h v hv
/-- It is seen in the value itself. -/
def selfB : Nat → Value → Bool
  | n + 1, .agg cs => cs.all (selfB n)
  | n + 1, .tuple cs => cs.all (selfB n)
  | _, v => atomB v
theorem self_of : ∀ (n : Nat) (v : Value), selfB n v = true → SelfV v := by
  intro n
  induction n with
  | zero => intro v h σ D; exact atom_self (by unfold selfB at h; exact h)
  | succ n ih =>
    intro v h
    unfold selfB at h
    split at h
    · rename_i cs heq
      rw [Array.all_eq_true_iff_forall_mem] at h
      exact self_agg fun x hx => ih x (by simp_all)
    · rw [Array.all_eq_true_iff_forall_mem] at h
      intro σ D
      refine .tuple rfl fun i x y hx hy => ?_
      rw [hx] at hy
      cases hy
      exact ih x (by simp_all [Array.mem_of_getElem? hx]) σ D
    · exact fun σ D => atom_self h
end Go.Proofs.Ytgfgoflhmikalaa.par
