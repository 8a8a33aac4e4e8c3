/- Part 1 of what the proofs stand on: lemmas on worlds, on goroutines, contracts of functions. No conditions. -/
import Derived.Calls
namespace Go.Proofs.Ytgfgoflhmikalaa.par
open Go
set_option linter.unusedVariables false
set_option linter.unusedSimpArgs false
/-- Two rows, place by place. -/
def ArrR {α β : Type} (R : α → β → Prop) (xs : Array α) (ys : Array β) : Prop := xs.size = ys.size ∧ ∀ (i : Nat) (x : α) (y : β), xs[i]? = some x → ys[i]? = some y → R x y
/-- What a lone undef may stand for: no struct, no bool, nothing that is nil, no method's value. -/
def okU : Value → Bool
  | .agg _ => false
  | .bool _ => false
  | .nilIface => false
  | .nilFunc => false
  | .pointer none => false
  | .func (.method _) _ _ => false
  | _ => true
/-- A type that is none: what stands, alone, for a method that is a value: whoever calls it, or looks whether it is nil, is stuck. -/
def wkT : TypeId := 0
def isTA : Value → Bool
  | .tuple _ | .agg _ => true
  | _ => false
/-- Functions that are called by their names alone: no value is one, none is deferred. -/
def nd (f : FuncId) : Bool := f == 33
section
variable (σ : Nat → Nat) (D : Nat → Prop)
def AR (a a' : Addr) : Prop := D a.block ∧ a' = { a with block := σ a.block }
inductive VR : Value → Value → Prop
  | undef (v : Value) (h : okU v = true) : VR (.tuple #[]) v
  | bool (b : Bool) : VR (.bool b) (.bool b)
  | int (k : IntKind) (n : Int) : VR (.int k n) (.int k n)
  | float (k : FloatKind) (n : Nat) : VR (.float k n) (.float k n)
  | complex (k : FloatKind) (n m : Nat) : VR (.complex k n m) (.complex k n m)
  | string (s : ByteArray) : VR (.string s) (.string s)
  | nilp : VR (.pointer none) (.pointer none)
  | ptr {a a' : Addr} (h : AR σ D a a') : VR (.pointer (some a)) (.pointer (some a'))
  | nils (l c : Nat) : VR (.slice none l c) (.slice none l c)
  | slice {a a' : Addr} (h : AR σ D a a') (l c : Nat) : VR (.slice (some a) l c) (.slice (some a') l c)
  | nilm : VR (.map none) (.map none)
  | map {r : Nat} (h : D r) : VR (.map (some r)) (.map (some (σ r)))
  | nilc : VR (.chan none) (.chan none)
  | func (fn : FuncId) {f f' c c' : Array Value} (h1 : f.size = f'.size) (h2 : ∀ (i : Nat) (x y : Value), f[i]? = some x → f'[i]? = some y → VR x y)
      (h3 : c.size = c'.size) (h4 : ∀ (i : Nat) (x y : Value), c[i]? = some x → c'[i]? = some y → VR x y) (h0 : nd fn = false) : VR (.func (.func fn) f c) (.func (.func fn) f' c')
  | weird (m : String) (f c : Array Value) : VR (.func (.method "") #[.iface wkT (.tuple #[.func (.method m) f c])] #[]) (.func (.method m) f c)
  | nilf : VR .nilFunc .nilFunc
  | iface (t : TypeId) {v v' : Value} (h : VR v v') : VR (.iface t v) (.iface t v')
  | nili : VR .nilIface .nilIface
  | agg {c c' : Array Value} (h1 : c.size = c'.size) (h2 : ∀ (i : Nat) (x y : Value), c[i]? = some x → c'[i]? = some y → VR x y) : VR (.agg c) (.agg c')
  | tuple {c c' : Array Value} (h1 : c.size = c'.size) (h2 : ∀ (i : Nat) (x y : Value), c[i]? = some x → c'[i]? = some y → VR x y) : VR (.tuple c) (.tuple c')
abbrev VsR := ArrR (VR σ D)
inductive OR : Obj → Obj → Prop
  | cells {c c' : Array Value} (h : VsR σ D c c') (e : TypeId) (f : Nat × Nat) : OR (.cells c e f) (.cells c' e f)
  | view {a a' : Addr} (h : AR σ D a a') (t : TypeId) : OR (.view a t) (.view a' t)
  | number {a a' : Addr} (h : AR σ D a a') (lost : Bool) : OR (.number a lost) (.number a' lost)
inductive MR : Mark → Mark → Prop
  | acquire {a a' : Addr} (h : AR σ D a a') : MR (.acquire a) (.acquire a')
  | release {a a' : Addr} (h : AR σ D a a') : MR (.release a) (.release a')
  | releaseMerge {a a' : Addr} (h : AR σ D a a') : MR (.releaseMerge a) (.releaseMerge a')
  | extern (f : FuncId) : MR (.extern f) (.extern f)
  | noRoom : MR .noRoom .noRoom
end
/-- A halt behind which the lone run does not go on. -/
def badHalt : Halt → Prop
  | .stuck _ => True
  | .unsupported (.initOrder _) => False
  | .unsupported _ => True
  | _ => False
/-- Trees that end in a bad halt, whatever is answered. -/
inductive Dead {α : Type} : Sem α → Prop
  | halt {h : Halt} (hb : badHalt h) : Dead (.halt h)
  | shape {r : Nat} {k : Option (TypeId × Nat) → Sem α} (h : ∀ s, Dead (k s)) : Dead (.shape r k)
  | frozen {a : Addr} {k : Bool → Sem α} (h : ∀ b, Dead (k b)) : Dead (.frozen a k)
  | choose {q : Question} {k : Nat → Sem α} (h : ∀ n, Dead (k n)) : Dead (.choose q k)
  | program {k : Program → Sem α} (h : ∀ p, Dead (k p)) : Dead (.program k)
  | mark {m : Mark} {k : Sem α} (h : Dead k) : Dead (.mark m k)
section
variable (σ : Nat → Nat) (D : Nat → Prop) (P' P : Program)
inductive SRel {α β : Type} (R : α → β → Prop) : Sem α → Sem β → Prop
  | pure {a : α} {b : β} (h : R a b) : SRel R (.pure a) (.pure b)
  | load {m : Mode} {a a' : Addr} {k : Value → Sem α} {k' : Value → Sem β} (h : AR σ D a a') (hk : ∀ v v', VR σ D v v' → SRel R (k v) (k' v')) : SRel R (.load m a k) (.load m a' k')
  | store {m : Mode} {a a' : Addr} {v v' : Value} {k : Sem α} {k' : Sem β} (h : AR σ D a a') (hv : VR σ D v v') (hk : SRel R k k') : SRel R (.store m a v k) (.store m a' v' k')
  | new {o o' : Obj} {k : Nat → Sem α} {k' : Nat → Sem β} (h : OR σ D o o') (hk : ∀ r, D r → SRel R (k r) (k' (σ r))) : SRel R (.new o k) (.new o' k')
  | shape {r : Nat} {k : Option (TypeId × Nat) → Sem α} {k' : Option (TypeId × Nat) → Sem β} (h : D r) (hk : ∀ s, SRel R (k s) (k' s)) : SRel R (.shape r k) (.shape (σ r) k')
  | freeze {a a' : Addr} {n : Nat} {k : Sem α} {k' : Sem β} (h : AR σ D a a') (hk : SRel R k k') : SRel R (.freeze a n k) (.freeze a' n k')
  | frozen {a a' : Addr} {k : Bool → Sem α} {k' : Bool → Sem β} (h : AR σ D a a') (hk : ∀ b, SRel R (k b) (k' b)) : SRel R (.frozen a k) (.frozen a' k')
  | getObj {r : Nat} {k : Obj → Sem α} {k' : Obj → Sem β} (h : D r) (hk : ∀ o o', OR σ D o o' → SRel R (k o) (k' o')) : SRel R (.getObj r k) (.getObj (σ r) k')
  | choose {q : Question} {k : Nat → Sem α} {k' : Nat → Sem β} (hk : ∀ n, SRel R (k n) (k' n)) : SRel R (.choose q k) (.choose q k')
  | program {k : Program → Sem α} {k' : Program → Sem β} (hk : SRel R (k P') (k' P)) : SRel R (.program k) (.program k')
  | progl {k : Program → Sem α} {s' : Sem β} (hk : SRel R (k P') s') : SRel R (.program k) s'
  | mark {m m' : Mark} {k : Sem α} {k' : Sem β} (h : MR σ D m m') (hk : SRel R k k') : SRel R (.mark m k) (.mark m' k')
  | panic {v v' : Value} (h : VR σ D v v') : SRel R (.halt (.panic v)) (.halt (.panic v'))
  | dead {s : Sem α} {s' : Sem β} (h : Dead s) : SRel R s s'
end
theorem Dead.bind {α γ : Type} {s : Sem α} (h : Dead s) (f : α → Sem γ) : Dead (s.bind f) := by
  induction h with
  | halt hb => exact .halt hb
  | shape _ ih => exact .shape ih
  | frozen _ ih => exact .frozen ih
  | choose _ ih => exact .choose ih
  | program _ ih => exact .program ih
  | mark _ ih => exact .mark ih
section
variable {σ : Nat → Nat} {D : Nat → Prop} {P' P : Program}
theorem SRel.bind {α β γ δ : Type} {R : α → β → Prop} {S : γ → δ → Prop} {s : Sem α} {s' : Sem β} {f : α → Sem γ} {f' : β → Sem δ} (h : SRel σ D P' P R s s') (hf : ∀ a b, R a b → SRel σ D P' P S (f a) (f' b)) :
    SRel σ D P' P S (s >>= f) (s' >>= f') := by
  show SRel σ D P' P S (s.bind f) (s'.bind f')
  induction h with
  | pure h => exact hf _ _ h
  | load h _ ih => exact .load h ih
  | store h hv _ ih => exact .store h hv ih
  | new h _ ih => exact .new h ih
  | shape h _ ih => exact .shape h ih
  | freeze h _ ih => exact .freeze h ih
  | frozen h _ ih => exact .frozen h ih
  | getObj h _ ih => exact .getObj h ih
  | choose _ ih => exact .choose ih
  | program _ ih => exact .program ih
  | progl _ ih => exact .progl ih
  | mark h _ ih => exact .mark h ih
  | panic h => exact .panic h
  | dead h => exact .dead (h.bind f)
theorem SRel.mono {α β : Type} {R S : α → β → Prop} {s : Sem α} {s' : Sem β} (h : SRel σ D P' P R s s') (hf : ∀ a b, R a b → S a b) : SRel σ D P' P S s s' := by
  induction h with
  | pure h => exact .pure (hf _ _ h)
  | load h _ ih => exact .load h ih
  | store h hv _ ih => exact .store h hv ih
  | new h _ ih => exact .new h ih
  | shape h _ ih => exact .shape h ih
  | freeze h _ ih => exact .freeze h ih
  | frozen h _ ih => exact .frozen h ih
  | getObj h _ ih => exact .getObj h ih
  | choose _ ih => exact .choose ih
  | program _ ih => exact .program ih
  | progl _ ih => exact .progl ih
  | mark h _ ih => exact .mark h ih
  | panic h => exact .panic h
  | dead h => exact .dead h
end
end Go.Proofs.Ytgfgoflhmikalaa.par

namespace Go.Proofs.Ytgfgoflhmikalaa.par
open Go
set_option linter.unusedVariables false
set_option linter.unusedSimpArgs false
def resW {α : Type} : Result α → World
  | .ok _ w => w
  | .halt _ w => w
/-- What never goes back. -/
structure Grows (w w' : World) : Prop where
  size : w.heap.size ≤ w'.heap.size
  drawn : w.drawn ≤ w'.drawn
  tape : w'.tape = w.tape
theorem Grows.refl (w : World) : Grows w w := ⟨Nat.le_refl _, Nat.le_refl _, rfl⟩
theorem Grows.trans {a b c : World} (h : Grows a b) (k : Grows b c) : Grows a c := ⟨Nat.le_trans h.size k.size, Nat.le_trans h.drawn k.drawn, k.tape.trans h.tape⟩
theorem ask_grows {α : Type} (a : Ask α) : ∀ (w : World), Grows w (w.ask a).2 := by
  induction a with
  | done a => intro w; exact Grows.refl w
  | ask what range k ih =>
    intro w
    unfold World.ask
    dsimp only
    split
    · exact ih _ w
    · have h1 : Grows w { w with drawn := w.drawn + 1 } := ⟨Nat.le_refl _, Nat.le_succ _, rfl⟩
      exact h1.trans (ih _ _)
theorem sys_grows (w : World) (c : Sys) : Grows w (w.sys c).2 := by
  have h := ask_grows (Kernel.perform c w.os) w
  unfold World.sys
  revert h
  rcases hx : w.ask (Kernel.perform c w.os) with ⟨⟨r, os⟩, w1⟩
  intro h
  cases r <;> first | exact Grows.refl w | exact ⟨h.size, h.drawn, h.tape⟩
theorem viewStore_grows {p : Program} {w : World} {a : Addr} {u : TypeId} {k : Addr} {v : Value} {at' : Bool} {r : World × List Addr} (h : w.viewStore p a u k v at' = .ok r) : Grows w r.1 := by
  unfold World.viewStore at h
  simp only [bind, Except.bind, pure, Except.pure, throw, throwThe, MonadExceptOf.throw] at h
  repeat' (split at h <;> try (cases h; done))
  all_goals first
    | (cases h; exact ⟨by simp, Nat.le_refl _, rfl⟩)
    | (simp at h)
theorem farStore_grows {p : Program} {w : World} {a : Addr} {v : Value} {at' : Bool} {r : World × List Addr} (h : w.farStore p a v at' = .ok r) : Grows w r.1 := by
  unfold World.farStore at h
  split at h
  · split at h
    · rename_i hr
      cases h
      exact viewStore_grows hr
    · cases h
  · cases h
theorem setCell_grows (w : World) (a : Addr) (v : Value) : Grows w (w.setCell a v) := ⟨by simp [World.setCell], Nat.le_refl _, rfl⟩
theorem freeze_grows (w : World) (a : Addr) (n : Nat) : Grows w (w.freeze a n) := by
  unfold World.freeze
  split
  · exact Grows.refl w
  · exact ⟨by simp, Nat.le_refl _, rfl⟩
theorem runT_grows {α : Type} (p : Program) (s : Sem α) : ∀ (w : World) (es : Array Event), Grows w (resW (s.runT p w es).1) := by
  induction s with
  | pure a => intro w es; exact Grows.refl w
  | load m a k ih =>
    intro w es
    simp only [Sem.runT]
    split
    · exact ih _ _ _
    · split
      · exact ih _ _ _
      · exact Grows.refl w
  | store m a v k ih =>
    intro w es
    have key : ∀ (r : Result α × Array Event), r = (match w.cell? a with
      | some _ => if w.frozen? a then (.halt (.unsupported (.unsafePointer "a write to bytes that a string shares")) w, es) else k.runT p (w.setCell a v) (es.push ⟨.cell a, true, m == .atomic⟩)
      | none => match w.farStore p a v (m == .atomic) with
        | .ok (w, touched) => k.runT p w (es ++ touched.toArray.map (⟨.cell ·, true, m == .atomic⟩))
        | .error h => (.halt h w, es)) → Grows w (resW r.1) := by
      intro r hr
      subst hr
      split
      · split
        · exact Grows.refl w
        · exact (setCell_grows w a v).trans (ih _ _)
      · split
        · rename_i hf
          exact (farStore_grows hf).trans (ih _ _)
        · exact Grows.refl w
    cases v <;> first | exact Grows.refl w | exact key _ rfl
  | new o k ih =>
    intro w es
    have h1 : Grows w { w with heap := w.heap.push o } := ⟨by simp, Nat.le_refl _, rfl⟩
    exact h1.trans (ih _ _ _)
  | shape r k ih => intro w es; exact ih _ _ _
  | freeze a n k ih => intro w es; exact (freeze_grows w a n).trans (ih _ _)
  | frozen a k ih => intro w es; exact ih _ _ _
  | getObj r k ih =>
    intro w es
    simp only [Sem.runT]
    split
    · exact Grows.refl w
    · exact ih _ _ _
    · exact Grows.refl w
  | setObj r o k ih =>
    intro w es
    simp only [Sem.runT]
    split
    · exact Grows.refl w
    · have h1 : Grows w { w with heap := w.heap.setIfInBounds r o } := ⟨by simp, Nat.le_refl _, rfl⟩
      exact h1.trans (ih _ _)
    · exact Grows.refl w
  | choose q k ih =>
    intro w es
    simp only [Sem.runT]
    split
    · exact ih _ _ _
    · have h1 : Grows w { w with drawn := w.drawn + 1 } := ⟨Nat.le_refl _, Nat.le_succ _, rfl⟩
      exact h1.trans (ih _ _ _)
  | sys c k ih => intro w es; exact (sys_grows w c).trans (ih _ _ _)
  | program k ih => intro w es; exact ih _ _ _
  | mark m k ih => intro w es; exact ih _ _
  | halt h => intro w es; exact Grows.refl w

section
variable (σ : Nat → Nat) (D : Nat → Prop) (W0 : World)
/-- The lone world 'u' and the crowd's 'w'. -/
structure WR (u w : World) : Prop where
  obj : ∀ r o, D r → u.heap[r]? = some o → ∃ o', w.heap[σ r]? = some o' ∧ OR σ D o o'
  fut : ∀ r, D r → u.heap.size ≤ r → w.heap.size ≤ σ r
  low : W0.heap.size ≤ u.heap.size
  orig : ∀ (a : Addr), D a.block → a.block < W0.heap.size → ∀ z, isTA z = true → u.cell? a = some z → w.cell? { a with block := σ a.block } = W0.cell? a
/-- What the crowd's world has suffered, beside the lone one. -/
structure Turned (u w u' w' : World) : Prop where
  lone : Grows u u'
  tape : w'.tape = w.tape
  os : w'.os = w.os
  output : w'.output = w.output
  size : w'.heap.size + u.heap.size = w.heap.size + u'.heap.size
  drawn : w'.drawn + u.drawn = w.drawn + u'.drawn
  kept : ∀ b, b < w.heap.size → (∀ r, D r → r < u.heap.size → σ r ≠ b) → w'.heap[b]? = w.heap[b]?
/-- An access of the crowd's is of an image of a block that the lone run may name. -/
def EvOk (e : Event) : Prop :=
  match e.loc with
  | .cell a => ∃ r, D r ∧ a.block = σ r
  | .obj b => ∃ r, D r ∧ b = σ r
  | .mark m => ∃ m', MR σ D m' m
  | _ => False
end
section
variable {σ : Nat → Nat} {D : Nat → Prop} {W0 : World}
theorem Turned.refl (u w : World) : Turned σ D u w u w := ⟨Grows.refl u, rfl, rfl, rfl, rfl, rfl, fun _ _ _ => rfl⟩
theorem Turned.trans {u w u1 w1 u2 w2 : World} (h : Turned σ D u w u1 w1) (k : Turned σ D u1 w1 u2 w2) (hn : ∀ r, u.heap.size ≤ r → r < u1.heap.size → w.heap.size ≤ σ r) : Turned σ D u w u2 w2 := by
  have a1 := h.lone.size
  have a2 := h.size
  have a3 := k.size
  have a4 := h.drawn
  have a5 := k.drawn
  refine ⟨h.lone.trans k.lone, k.tape.trans h.tape, k.os.trans h.os, k.output.trans h.output, by omega, by omega, fun b hb hr => ?_⟩
  rw [k.kept b (by omega) (fun r hd hlt e => ?_), h.kept b hb hr]
  by_cases hlt2 : r < u.heap.size
  · exact hr r hd hlt2 e
  · have := hn r (by omega) hlt
    omega
theorem ArrR.get {α β : Type} {R : α → β → Prop} {xs : Array α} {ys : Array β} (h : ArrR R xs ys) {i : Nat} {x : α} (hx : xs[i]? = some x) : ∃ y, ys[i]? = some y ∧ R x y := by
  have hi : i < xs.size := (Array.getElem?_eq_some_iff.1 hx).1
  have hi' : i < ys.size := by rw [← h.1]; exact hi
  exact ⟨ys[i], Array.getElem?_eq_getElem hi', h.2 i x _ hx (Array.getElem?_eq_getElem hi')⟩
theorem ArrR.push {α β : Type} {R : α → β → Prop} {xs : Array α} {ys : Array β} (h : ArrR R xs ys) {x : α} {y : β} (hx : R x y) : ArrR R (xs.push x) (ys.push y) := by
  refine ⟨by simp [h.1], fun i a b ha hb => ?_⟩
  rw [Array.getElem?_push] at ha hb
  rw [h.1] at ha
  split at ha <;> rename_i hi
  · rw [if_pos hi] at hb
    cases ha; cases hb; exact hx
  · rw [if_neg hi] at hb
    exact h.2 i a b ha hb
theorem ArrR.set {α β : Type} {R : α → β → Prop} {xs : Array α} {ys : Array β} (h : ArrR R xs ys) {j : Nat} {x : α} {y : β} (hx : R x y) : ArrR R (xs.setIfInBounds j x) (ys.setIfInBounds j y) := by
  refine ⟨by simp [h.1], fun i a b ha hb => ?_⟩
  rw [Array.getElem?_setIfInBounds] at ha hb
  split at ha <;> rename_i hi
  · rw [if_pos hi] at hb
    split at ha <;> rename_i hj
    · split at hb
      · cases ha; cases hb; exact hx
      · cases hb
    · cases ha
  · rw [if_neg hi] at hb
    exact h.2 i a b ha hb
theorem WR.cell {u w : World} (h : WR σ D W0 u w) {a a' : Addr} (ha : AR σ D a a') {v : Value} (hc : u.cell? a = some v) : ∃ v', w.cell? a' = some v' ∧ VR σ D v v' := by
  obtain ⟨hd, rfl⟩ := ha
  unfold World.cell? at hc
  split at hc
  · rename_i c e f ho
    obtain ⟨o', ho', hr⟩ := h.obj _ _ hd ho
    cases hr with
    | cells hv e f =>
    split at hc
    · cases hc
    · rename_i hs
      obtain ⟨v', hv', hvr⟩ := hv.get hc
      refine ⟨v', ?_, hvr⟩
      unfold World.cell?
      dsimp only
      rw [ho']
      simp only [hs]
      exact hv'
  · cases hc
theorem WR.is_cells {u w : World} (h : WR σ D W0 u w) {r : Nat} (hd : D r) {o : Obj} (ho : u.heap[r]? = some o) : (∃ c e f, o = .cells c e f) ∨ (∃ a a' t, o = .view a t ∧ w.heap[σ r]? = some (.view a' t) ∧ AR σ D a a') ∨ ∃ a a' l, o = .number a l ∧ w.heap[σ r]? = some (.number a' l) ∧ AR σ D a a' := by
  obtain ⟨o', h', hr⟩ := h.obj _ _ hd ho
  cases hr with
  | cells _ e f => exact .inl ⟨_, e, f, rfl⟩
  | view ha t => exact .inr (.inl ⟨_, _, t, rfl, h', ha⟩)
  | number ha t => exact .inr (.inr ⟨_, _, t, rfl, h', ha⟩)
theorem none_of_le {α : Type} {xs : Array α} {i : Nat} (h : xs.size ≤ i) : xs[i]? = none := Array.getElem?_eq_none h
theorem WR.frozen {u w : World} (h : WR σ D W0 u w) {a a' : Addr} (ha : AR σ D a a') : w.frozen? a' = u.frozen? a := by
  obtain ⟨hd, rfl⟩ := ha
  unfold World.frozen?
  dsimp only
  rcases ho : u.heap[a.block]? with _ | o
  · have hle : u.heap.size ≤ a.block := Array.getElem?_eq_none_iff.1 ho
    rw [none_of_le (h.fut _ hd hle)]
  · obtain ⟨o', ho', hr⟩ := h.obj _ _ hd ho
    rw [ho']
    cases hr with
    | cells hv e f => rfl
    | view ha t => rfl
    | number ha t => rfl
theorem WR.shape {u w : World} (h : WR σ D W0 u w) {r : Nat} (hd : D r) : w.shape? (σ r) = u.shape? r := by
  unfold World.shape?
  rcases ho : u.heap[r]? with _ | o
  · have hle : u.heap.size ≤ r := Array.getElem?_eq_none_iff.1 ho
    rw [none_of_le (h.fut _ hd hle)]
  · obtain ⟨o', ho', hr⟩ := h.obj _ _ hd ho
    rw [ho']
    cases hr with
    | cells hv e f => simp [hv.1]
    | view ha t => rfl
    | number ha t => rfl
/-- One block turned in both, others kept. -/
theorem WR.turn {u w : World} (h : WR σ D W0 u w) (hinj : ∀ r r', D r → D r' → σ r = σ r' → r = r') {b : Nat} (hd : D b) {u' w' : World} (hu : u'.heap.size = u.heap.size) (hw : w'.heap.size = w.heap.size)
    (hub : ∀ r, r ≠ b → u'.heap[r]? = u.heap[r]?) (hwb : ∀ r, r ≠ σ b → w'.heap[r]? = w.heap[r]?)
    (hb : ∀ o, u'.heap[b]? = some o → ∃ o', w'.heap[σ b]? = some o' ∧ OR σ D o o')
    (ho : ∀ (a : Addr), a.block = b → b < W0.heap.size → ∀ z, isTA z = true → u'.cell? a = some z → w'.cell? { a with block := σ a.block } = W0.cell? a) : WR σ D W0 u' w' := by
  refine ⟨fun r o hr hro => ?_, fun r hr hle => ?_, by rw [hu]; exact h.low, fun a ha hlt z hz hc => ?_⟩
  · by_cases e : r = b
    · subst e; exact hb o hro
    · rw [hub r e] at hro
      obtain ⟨o', h1, h2⟩ := h.obj r o hr hro
      exact ⟨o', by rw [hwb _ (fun e2 => e (hinj _ _ hr hd e2))]; exact h1, h2⟩
  · rw [hw]; exact h.fut r hr (by rw [← hu]; exact hle)
  · by_cases e : a.block = b
    · exact ho a e (e ▸ hlt) z hz hc
    · have h1 : u'.cell? a = u.cell? a := by unfold World.cell?; rw [hub _ e]
      rw [h1] at hc
      have h2 := h.orig a ha hlt z hz hc
      rw [← h2]
      unfold World.cell?
      dsimp only
      rw [hwb _ (fun e2 => e (hinj _ _ ha hd e2))]
theorem heap_setCell (w : World) (a : Addr) (v : Value) (r : Nat) (h : r ≠ a.block) : (w.setCell a v).heap[r]? = w.heap[r]? := by
  simp only [World.setCell]
  rw [Array.getElem?_modify, if_neg (fun e => h e.symm)]
theorem heap_setCell_at (w : World) (a : Addr) (v : Value) {c : Array Value} {e : TypeId} {f : Nat × Nat} (h : w.heap[a.block]? = some (.cells c e f)) :
    (w.setCell a v).heap[a.block]? = some (.cells (if a.spot.isSome then c else c.setIfInBounds a.off v) e f) := by
  simp only [World.setCell]
  rw [Array.getElem?_modify, if_pos rfl, h]
  rfl
def notCells : Obj → Bool
  | .cells _ _ _ => false
  | _ => true
theorem heap_setCell_view (w : World) (a : Addr) (v : Value) {o : Obj} (hn : notCells o = true) (h : w.heap[a.block]? = some o) : (w.setCell a v).heap[a.block]? = some o := by
  simp only [World.setCell]
  rw [Array.getElem?_modify, if_pos rfl, h]
  cases o <;> first | rfl | cases hn
theorem heap_freeze_view (w : World) (a : Addr) (n : Nat) {o : Obj} (hn : notCells o = true) (h : w.heap[a.block]? = some o) : (w.freeze a n).heap[a.block]? = some o := by
  unfold World.freeze
  split
  · rw [h]
  · rw [Array.getElem?_modify, if_pos rfl, h]
    cases o <;> first | rfl | cases hn
theorem heap_freeze (w : World) (a : Addr) (n : Nat) (r : Nat) (h : r ≠ a.block) : (w.freeze a n).heap[r]? = w.heap[r]? := by
  unfold World.freeze
  split
  · rfl
  · rw [Array.getElem?_modify, if_neg (fun e => h e.symm)]
theorem heap_freeze_at (w : World) (a : Addr) (n : Nat) {c : Array Value} {e : TypeId} {f : Nat × Nat} (h : w.heap[a.block]? = some (.cells c e f)) :
    (w.freeze a n).heap[a.block]? = some (.cells c e (if n = 0 then f else if f.1 == f.2 then (a.off, a.off + n) else (min f.1 a.off, max f.2 (a.off + n)))) := by
  unfold World.freeze
  split
  · rw [h]
  · rw [Array.getElem?_modify, if_pos rfl, h]
    rfl
theorem WR.set {u w : World} (h : WR σ D W0 u w) (hinj : ∀ r r', D r → D r' → σ r = σ r' → r = r') {a a' : Addr} (ha : AR σ D a a') {v v' : Value} (hv : VR σ D v v') (hn : isTA v = false) : WR σ D W0 (u.setCell a v) (w.setCell a' v') := by
  obtain ⟨hd, rfl⟩ := ha
  refine h.turn hinj hd (by simp [World.setCell]) (by simp [World.setCell]) (fun r hr => heap_setCell _ _ _ _ hr) (fun r hr => heap_setCell _ _ _ _ hr) (fun o ho => ?_) (fun x hx hlt z hz hc => ?_)
  · rcases hb : u.heap[a.block]? with _ | o0
    · have hle : u.heap.size ≤ a.block := Array.getElem?_eq_none_iff.1 hb
      rw [none_of_le (by simpa [World.setCell] using hle)] at ho
      cases ho
    · obtain ⟨o1, h1, h2⟩ := h.obj _ _ hd hb
      cases h2 with
      | view ha t =>
        rw [heap_setCell_view _ _ _ rfl hb] at ho
        cases ho
        exact ⟨_, heap_setCell_view w { a with block := σ a.block } v' rfl h1, .view ha t⟩
      | number ha t =>
        rw [heap_setCell_view _ _ _ rfl hb] at ho
        cases ho
        exact ⟨_, heap_setCell_view w { a with block := σ a.block } v' rfl h1, .number ha t⟩
      | cells hv0 e f =>
      rw [heap_setCell_at _ _ _ hb] at ho
      cases ho
      refine ⟨_, heap_setCell_at w { a with block := σ a.block } v' h1, ?_⟩
      dsimp only
      split
      · exact .cells hv0 e f
      · exact .cells (hv0.set hv) e f
  · rcases hb : u.heap[a.block]? with _ | o0
    · have hle : u.heap.size ≤ a.block := Array.getElem?_eq_none_iff.1 hb
      unfold World.cell? at hc
      rw [hx, none_of_le (by simpa [World.setCell] using hle)] at hc
      cases hc
    · obtain ⟨o1, h1, h2⟩ := h.obj _ _ hd hb
      cases h2 with
      | view ha t =>
        unfold World.cell? at hc
        rw [hx, heap_setCell_view _ _ _ rfl hb] at hc
        cases hc
      | number ha t =>
        unfold World.cell? at hc
        rw [hx, heap_setCell_view _ _ _ rfl hb] at hc
        cases hc
      | cells hv0 e f =>
      have hs := heap_setCell_at u a v hb
      have hs' := heap_setCell_at w { a with block := σ a.block } v' h1
      have key : u.cell? x = some z ∧ (w.setCell { a with block := σ a.block } v').cell? { x with block := σ x.block } = w.cell? { x with block := σ x.block } := by
        obtain ⟨xb, xo, xs⟩ := x
        dsimp only at hx
        subst hx
        unfold World.cell? at hc ⊢
        dsimp only at hc ⊢
        rw [hs] at hc
        rw [hb, hs', h1]
        dsimp only at hc ⊢
        by_cases e1 : xs.isSome = true
        · rw [if_pos e1] at hc; cases hc
        · rw [if_neg e1] at hc ⊢
          by_cases e2 : a.spot.isSome = true
          · rw [if_pos e2] at hc
            simp only [if_pos e2, if_neg e1]
            exact ⟨hc, trivial⟩
          · rw [if_neg e2, Array.getElem?_setIfInBounds] at hc
            simp only [if_neg e2, if_neg e1]
            by_cases e3 : a.off = xo
            · rw [if_pos e3] at hc
              split at hc
              · cases hc; rw [hn] at hz; cases hz
              · cases hc
            · rw [if_neg e3] at hc
              exact ⟨hc, by rw [Array.getElem?_setIfInBounds, if_neg e3]⟩
      rw [key.2]
      exact h.orig x (hx ▸ hd) (hx ▸ hlt) z hz key.1
theorem WR.freeze {u w : World} (h : WR σ D W0 u w) (hinj : ∀ r r', D r → D r' → σ r = σ r' → r = r') {a a' : Addr} (ha : AR σ D a a') (n : Nat) : WR σ D W0 (u.freeze a n) (w.freeze a' n) := by
  obtain ⟨hd, rfl⟩ := ha
  have hsz : ∀ (w : World) (a : Addr), (w.freeze a n).heap.size = w.heap.size := fun w a => by unfold World.freeze; split <;> simp
  have hcell : ∀ (w : World) (a x : Addr), (w.freeze a n).cell? x = w.cell? x := fun w a x => by
    by_cases e : x.block = a.block
    · unfold World.freeze
      split
      · rfl
      · unfold World.cell?
        dsimp only
        rw [Array.getElem?_modify, if_pos e.symm]
        rcases w.heap[x.block]? with _ | o
        · rfl
        · cases o <;> rfl
    · unfold World.cell?
      rw [heap_freeze _ _ _ _ e]
  refine h.turn hinj hd (hsz _ _) (hsz _ _) (fun r hr => heap_freeze _ _ _ _ hr) (fun r hr => heap_freeze _ _ _ _ hr) (fun o ho => ?_) (fun x hx hlt z hz hc => ?_)
  · rcases hb : u.heap[a.block]? with _ | o0
    · have hle : u.heap.size ≤ a.block := Array.getElem?_eq_none_iff.1 hb
      rw [none_of_le (by rw [hsz]; exact hle)] at ho
      cases ho
    · obtain ⟨o1, h1, h2⟩ := h.obj _ _ hd hb
      cases h2 with
      | view ha t =>
        rw [heap_freeze_view _ _ _ rfl hb] at ho
        cases ho
        exact ⟨_, heap_freeze_view w { a with block := σ a.block } n rfl h1, .view ha t⟩
      | number ha t =>
        rw [heap_freeze_view _ _ _ rfl hb] at ho
        cases ho
        exact ⟨_, heap_freeze_view w { a with block := σ a.block } n rfl h1, .number ha t⟩
      | cells hv0 e f =>
      rw [heap_freeze_at _ _ _ hb] at ho
      cases ho
      exact ⟨_, heap_freeze_at w { a with block := σ a.block } n h1, .cells hv0 e _⟩
  · rw [hcell] at hc ⊢
    exact h.orig x (hx ▸ hd) (hx ▸ hlt) z hz hc
theorem WR.push {u w : World} (h : WR σ D W0 u w) (hinj : ∀ r r', D r → D r' → σ r = σ r' → r = r') {o o' : Obj} (ho : OR σ D o o') (hd : D u.heap.size) (hs : σ u.heap.size = w.heap.size) :
    WR σ D W0 { u with heap := u.heap.push o } { w with heap := w.heap.push o' } := by
  refine ⟨fun r x hr hrx => ?_, fun r hr hle => ?_, ?_, fun a ha hlt z hz hc => ?_⟩
  · dsimp only at hrx ⊢
    rw [Array.getElem?_push] at hrx
    split at hrx <;> rename_i e
    · cases hrx
      rw [e, hs]
      exact ⟨o', by rw [Array.getElem?_push, if_pos rfl], ho⟩
    · obtain ⟨x', h1, h2⟩ := h.obj r x hr hrx
      refine ⟨x', ?_, h2⟩
      rw [Array.getElem?_push, if_neg (fun e2 => e (hinj _ _ hr hd (e2.trans hs.symm)))]
      exact h1
  · dsimp only at hle ⊢
    simp only [Array.size_push] at hle ⊢
    have h1 := h.fut r hr (by omega)
    have h2 : σ r ≠ w.heap.size := fun e => by
      have := hinj _ _ hr hd (e.trans hs.symm)
      omega
    omega
  · have := h.low
    simp only [Array.size_push]
    omega
  · have hlow := h.low
    have e1 : ({ u with heap := u.heap.push o } : World).cell? a = u.cell? a := by
      unfold World.cell?
      dsimp only
      rw [Array.getElem?_push, if_neg (by omega)]
    rw [e1] at hc
    have h1 := h.orig a ha hlt z hz hc
    rw [← h1]
    unfold World.cell?
    dsimp only
    rw [Array.getElem?_push, if_neg (fun e => by have := hinj _ _ ha hd (e.trans hs.symm); omega)]
end
end Go.Proofs.Ytgfgoflhmikalaa.par
