/- Part 3 of what the proofs stand on: lemmas on worlds, on goroutines, contracts of functions. No conditions. -/
import Derived.Test.YtgfgoflhmikalaaM02
import Derived.Laws.Sem
namespace Go.Proofs.Ytgfgoflhmikalaa.par
open Go
set_option linter.unusedVariables false
set_option linter.unusedSimpArgs false
def okE : RuntimeError → Bool
  | .bounds .. | .error _ | .plain _ | .nilDeref => true
  | _ => false
/-- A value that is related to itself, whatever may be named. -/
def SelfV (v : Value) : Prop := ∀ (σ : Nat → Nat) (D : Nat → Prop), VR σ D v v
/-- The tables' values of nought bear no address. -/
def ZP (T : Tables) : Prop := (∀ t i v, T.info? t = some i → i.zero = some v → SelfV v) ∧ ∀ i, T.info? wkT = some i → i.methods.find? (fun m => m.name == "") = none
section
variable {σ : Nat → Nat} {D : Nat → Prop} {T : Tables} {F' F : Array Func}
theorem sr_newRow (e : TypeId) {c c' : Array Value} (h : VsR σ D c c') : SRel σ D (⟨T, F'⟩ : Program) (⟨T, F⟩ : Program) (AR σ D) (newRow e c) (newRow e c') := .new (.cells h e (0, 0)) (fun r hd => .pure ⟨hd, rfl⟩)
theorem sr_newVar (e : TypeId) {v v' : Value} (h : VR σ D v v') : SRel σ D (⟨T, F'⟩ : Program) (⟨T, F⟩ : Program) (AR σ D) (newVar e v) (newVar e v') := sr_newRow e (cells_rel h)
theorem sr_zero (hz : ZP T) (t : TypeId) : SRel σ D (⟨T, F'⟩ : Program) (⟨T, F⟩ : Program) (fun a b => a = b ∧ SelfV a) (zeroValue t) (zeroValue t) := by
  unfold zeroValue
  refine sr_info t (fun i hi => ?_)
  cases h : i.zero with
  | some v => exact sr_pure ⟨rfl, hz.1 t i v hi h⟩
  | none => exact sr_uns
theorem sr_asIntOf {v v' : Value} (h : VR σ D v v') : SRel σ D (⟨T, F'⟩ : Program) (⟨T, F⟩ : Program) Eq (asIntOf v) (asIntOf v') := by
  cases h <;> first | exact sr_pure rfl | exact sr_stuck | exact sr_uns
theorem sr_asInt {v v' : Value} (h : VR σ D v v') : SRel σ D (⟨T, F'⟩ : Program) (⟨T, F⟩ : Program) Eq (asInt v) (asInt v') := (sr_asIntOf h).bind (fun a b e => sr_pure (by rw [e]))
theorem sr_asBool {v v' : Value} (h : VR σ D v v') : SRel σ D (⟨T, F'⟩ : Program) (⟨T, F⟩ : Program) Eq (asBool v) (asBool v') := by
  cases h <;> first | exact sr_pure rfl | exact sr_stuck
theorem sr_asAgg {v v' : Value} (h : VR σ D v v') : SRel σ D (⟨T, F'⟩ : Program) (⟨T, F⟩ : Program) (VsR σ D) (asAgg v) (asAgg v') := by
  cases h with
  | agg h1 h2 => exact sr_pure ⟨h1, h2⟩
  | _ => exact sr_stuck
theorem sr_sure {v v' : Value} (h : VR σ D v v') : SRel σ D (⟨T, F'⟩ : Program) (⟨T, F⟩ : Program) (AR σ D) (Instr.sureAddr v) (Instr.sureAddr v') := by
  cases h with
  | ptr h => exact sr_pure h
  | _ => exact sr_stuck
theorem sr_goPanic {α β : Type} {R : α → β → Prop} {v v' : Value} (h : VR σ D v v') : SRel σ D (⟨T, F'⟩ : Program) (⟨T, F⟩ : Program) R (goPanic v : Sem α) (goPanic v' : Sem β) := .panic h
theorem vr_agg {c : Array Value} (h : ∀ x ∈ c, atomB x = true) : VR σ D (.agg c) (.agg c) := .agg rfl (atoms_self (σ := σ) (D := D) h).2
theorem sr_panicE {α β : Type} {R : α → β → Prop} (e : RuntimeError) (he : okE e = true) : SRel σ D (⟨T, F'⟩ : Program) (⟨T, F⟩ : Program) R (runtimePanic e : Sem α) (runtimePanic e : Sem β) := by
  unfold runtimePanic
  refine sr_program ?_
  cases e with
  | bounds x y s c => exact sr_goPanic (.iface _ (vr_agg (by simp [atomB])))
  | error m => exact sr_goPanic (.iface _ (.string _))
  | plain m => exact sr_goPanic (.iface _ (.string _))
  | nilDeref => exact sr_goPanic (.iface _ (.string _))
  | _ => cases he
theorem sr_asAddr {v v' : Value} (h : VR σ D v v') : SRel σ D (⟨T, F'⟩ : Program) (⟨T, F⟩ : Program) (AR σ D) (asAddr v) (asAddr v') := by
  cases h with
  | ptr h => exact sr_pure h
  | nilp => exact sr_panicE .nilDeref rfl
  | _ => exact sr_stuck
theorem sr_choose (q : Question) : SRel σ D (⟨T, F'⟩ : Program) (⟨T, F⟩ : Program) Eq (choose q) (choose q) := .choose (fun n => .pure rfl)
theorem sr_bounds {α β : Type} {R : α → β → Prop} (k : IntKind) (x y : Int) (c : BoundsCode) : SRel σ D (⟨T, F'⟩ : Program) (⟨T, F⟩ : Program) R (boundsPanic k x y c : Sem α) (boundsPanic k x y c : Sem β) := by
  unfold boundsPanic
  split
  · exact SRel.bind (R := Eq) ((sr_choose _).bind (fun a b e => sr_pure (by rw [e]))) (fun a b e => by subst e; exact sr_panicE (.bounds _ _ a c) rfl)
  · exact SRel.bind (R := Eq) (sr_pure rfl) (fun a b e => by subst e; exact sr_panicE (.bounds _ _ a c) rfl)
theorem sr_loadAt (t : TypeId) {v v' : Value} (h : VR σ D v v') : SRel σ D (⟨T, F'⟩ : Program) (⟨T, F⟩ : Program) (VR σ D) (Instr.loadAt t v) (Instr.loadAt t v') := (sr_sure h).bind (fun a b hab => sr_loadVar t hab)
theorem sr_storeVar (t : TypeId) {a a' : Addr} (h : AR σ D a a') {v v' : Value} (hv : VR σ D v v') : SRel σ D (⟨T, F'⟩ : Program) (⟨T, F⟩ : Program) (fun _ _ => True) (storeVar t a v) (storeVar t a' v') := by
  unfold storeVar
  refine sr_sizeOf t (fun n => ?_)
  have hc := cells_rel hv
  rw [hc.1]
  split
  · exact sr_stuck
  · refine sr_storeCells h _ _ 0 (by simpa using hc.1) (fun j x y hx hy => hc.2 j x y (by simpa using hx) (by simpa using hy))
theorem sr_storeAt (t : TypeId) {v v' x x' : Value} (h : VR σ D v v') (hx : VR σ D x x') : SRel σ D (⟨T, F'⟩ : Program) (⟨T, F⟩ : Program) (fun _ _ => True) (Instr.storeAt t v x) (Instr.storeAt t v' x') := (sr_sure h).bind (fun a b hab => sr_storeVar t hab hx)
theorem sr_alloc (hz : ZP T) (t : TypeId) : SRel σ D (⟨T, F'⟩ : Program) (⟨T, F⟩ : Program) (VR σ D) (Instr.alloc t true (.tuple #[])) (Instr.alloc t true (.tuple #[])) := by
  unfold Instr.alloc
  exact (sr_zero hz t).bind (fun a b ⟨e, h⟩ => by subst e; exact (sr_newVar t (h σ D)).bind (fun x y hxy => sr_pure (.ptr hxy)))
theorem sr_box (t : TypeId) {v v' : Value} (h : VR σ D v v') : SRel σ D (⟨T, F'⟩ : Program) (⟨T, F⟩ : Program) (VR σ D) (Instr.box t v) (Instr.box t v') := (sr_newVar t h).bind (fun x y hxy => sr_pure (.ptr hxy))
theorem sr_extract {v v' : Value} (h : VR σ D v v') (i : Nat) : SRel σ D (⟨T, F'⟩ : Program) (⟨T, F⟩ : Program) (VR σ D) (Instr.extract v i) (Instr.extract v' i) := by
  cases h with
  | tuple h1 h2 =>
    rename_i c c'
    unfold Instr.extract
    dsimp only
    rcases hi : c[i]? with _ | x
    · exact sr_stuck
    · obtain ⟨y, hy, hxy⟩ := ArrR.get (R := VR σ D) ⟨h1, h2⟩ hi
      rw [hy]
      exact sr_pure hxy
  | undef v hv =>
    unfold Instr.extract
    simp only [List.getElem?_toArray, List.getElem?_nil]
    exact sr_stuck
  | _ => exact sr_stuck
theorem spot_rel {a a' : Addr} (h : AR σ D a a') : a'.spot = a.spot ∧ a'.off = a.off := by obtain ⟨_, rfl⟩ := h; exact ⟨rfl, rfl⟩
theorem sr_index {x x' i i' : Value} (t : TypeId) (hx : VR σ D x x') (hi : VR σ D i i') : SRel σ D (⟨T, F'⟩ : Program) (⟨T, F⟩ : Program) (VR σ D) (Instr.indexAt t x i) (Instr.indexAt t x' i') := by
  unfold Instr.indexAt
  refine (sr_asIntOf hi).bind (fun a b e => ?_)
  subst e
  obtain ⟨k, n⟩ := a
  dsimp only
  refine sr_und t (fun d => ?_)
  cases d with
  | array len elem =>
    refine (sr_sure hx).bind (fun a b hab => ?_)
    refine SRel.bind (R := fun p q => p = (some a, len, elem) ∧ q = (some b, len, elem)) (sr_pure ⟨rfl, rfl⟩) ?_
    rintro _ _ ⟨rfl, rfl⟩
    refine sr_und t (fun d => ?_)
    dsimp only
    repeat' split
    all_goals first | exact sr_uns | exact sr_bounds _ _ _ _ | exact sr_sizeOf _ (fun s => sr_pure (.ptr (hab.add _)))
  | slice elem =>
    cases hx with
    | nils l c =>
      refine SRel.bind (R := fun p q => p = (none, l, elem) ∧ q = (none, l, elem)) (sr_pure ⟨rfl, rfl⟩) ?_
      rintro _ _ ⟨rfl, rfl⟩
      refine sr_und t (fun d => ?_)
      exact sr_bounds _ _ _ _
    | @slice a b hab l c =>
      refine SRel.bind (R := fun p q => p = (some a, l, elem) ∧ q = (some b, l, elem)) (sr_pure ⟨rfl, rfl⟩) ?_
      rintro _ _ ⟨rfl, rfl⟩
      refine sr_und t (fun d => ?_)
      dsimp only
      repeat' split
      all_goals first | exact sr_uns | exact sr_bounds _ _ _ _ | exact sr_sizeOf _ (fun s => sr_pure (.ptr (hab.add _)))
    | _ => exact sr_stuckb
  | _ => exact sr_stuckb
theorem sr_shape {r : Nat} (h : D r) : SRel σ D (⟨T, F'⟩ : Program) (⟨T, F⟩ : Program) Eq (shape r) (shape (σ r)) := .shape h (fun s => .pure rfl)
theorem sr_frozen {a a' : Addr} (h : AR σ D a a') : SRel σ D (⟨T, F'⟩ : Program) (⟨T, F⟩ : Program) Eq (frozen a) (frozen a') := .frozen h (fun s => .pure rfl)
/-- What stands at a view. -/
inductive VwR (σ : Nat → Nat) (D : Nat → Prop) : Option (Addr × TypeId) → Option (Addr × TypeId) → Prop
  | none : VwR σ D none none
  | some {a a' : Addr} (h : AR σ D a a') (t : TypeId) : VwR σ D (some (a, t)) (some (a', t))
theorem sr_viewAt {r : Nat} (h : D r) : SRel σ D (⟨T, F'⟩ : Program) (⟨T, F⟩ : Program) (VwR σ D) (viewAt r) (viewAt (σ r)) := by
  unfold viewAt
  refine (sr_shape h).bind (fun a b e => ?_)
  subst e
  split
  · exact sr_pure .none
  · refine .getObj h (fun o o' ho => ?_)
    cases ho with
    | view ha t => exact sr_pure (.some ha t)
    | _ => exact sr_pure .none
theorem sr_noView {a a' : Addr} (h : AR σ D a a') : SRel σ D (⟨T, F'⟩ : Program) (⟨T, F⟩ : Program) (fun _ _ => True) (noView a) (noView a') := by
  unfold noView
  have e : a'.block = σ a.block := by rw [h.2]
  rw [e]
  refine (sr_viewAt h.1).bind (fun x y hxy => ?_)
  cases hxy with
  | none => exact sr_pure trivial
  | some ha t => exact sr_uns
theorem sr_byteOf {a a' : Addr} (h : AR σ D a a') : SRel σ D (⟨T, F'⟩ : Program) (⟨T, F⟩ : Program) Eq (byteOf a) (byteOf a') := by
  unfold byteOf
  have e1 : a'.block = σ a.block := by rw [h.2]
  have e2 : a'.spot = a.spot := by rw [h.2]
  have e3 : a'.off = a.off := by rw [h.2]
  rw [e1, e2, e3]
  split
  · exact sr_pure rfl
  · refine sr_program ?_
    refine (sr_noView h).bind (fun _ _ _ => ?_)
    refine (sr_shape h.1).bind (fun s s' e => ?_)
    subst e
    cases s with
    | none => exact sr_stuck
    | some x =>
      obtain ⟨e, n⟩ := x
      show SRel σ D (⟨T, F'⟩ : Program) (⟨T, F⟩ : Program) Eq (if (⟨T, F⟩ : Program).cellsOf e = 0 then Pure.pure 0 else match byteOfCell (⟨T, F'⟩ : Program) (⟨T, F⟩ : Program).depth e (a.off % (⟨T, F⟩ : Program).cellsOf e) with | some b => Pure.pure (a.off / (⟨T, F⟩ : Program).cellsOf e * (⟨T, F⟩ : Program).bytesOf e + b) | _ => stuck "byteOf: no such cell") (if (⟨T, F⟩ : Program).cellsOf e = 0 then Pure.pure 0 else match byteOfCell (⟨T, F⟩ : Program) (⟨T, F⟩ : Program).depth e (a.off % (⟨T, F⟩ : Program).cellsOf e) with | some b => Pure.pure (a.off / (⟨T, F⟩ : Program).cellsOf e * (⟨T, F⟩ : Program).bytesOf e + b) | _ => stuck "byteOf: no such cell")
      rw [byteOfCell_eq (F' := F') (F := F)]
      split
      · exact sr_pure rfl
      · split
        · exact sr_pure rfl
        · exact sr_stuck
theorem sr_partAt {a a' : Addr} (h : AR σ D a a') (c b : Nat) : SRel σ D (⟨T, F'⟩ : Program) (⟨T, F⟩ : Program) (AR σ D) (partAt a c b) (partAt a' c b) := by
  unfold partAt
  have e1 : a'.block = σ a.block := by rw [h.2]
  have e3 : a'.off = a.off := by rw [h.2]
  refine (sr_byteOf h).bind (fun x y e => ?_)
  subst e
  have h2 : AR σ D { block := a.block, off := a.off + c } { block := a'.block, off := a'.off + c } := ⟨h.1, by rw [e1, e3]⟩
  refine (sr_byteOf h2).bind (fun x2 y2 e => ?_)
  subst e
  refine sr_pure ?_
  split
  · exact h2
  · exact ⟨h.1, by rw [e1, e3]⟩
theorem sr_fieldPlace {a a' : Addr} (h : AR σ D a a') (f : Field) : SRel σ D (⟨T, F'⟩ : Program) (⟨T, F⟩ : Program) (AR σ D) (fieldPlace a f) (fieldPlace a' f) := by
  unfold fieldPlace
  refine sr_sizeOf _ (fun n => ?_)
  split
  · exact sr_partAt h _ _
  · exact sr_pure (h.add _)
theorem sr_fieldAt (s : TypeId) {v v' : Value} (h : VR σ D v v') (i : Nat) : SRel σ D (⟨T, F'⟩ : Program) (⟨T, F⟩ : Program) (VR σ D) (Instr.fieldAt s v i) (Instr.fieldAt s v' i) := by
  unfold Instr.fieldAt
  refine sr_und s (fun d => ?_)
  cases d with
  | struct fields =>
    dsimp only
    cases fields[i]? with
    | none => exact sr_stuck
    | some f => exact (sr_sure h).bind (fun a b hab => (sr_fieldPlace hab f).bind (fun x y hxy => sr_pure (.ptr hxy)))
  | _ => exact sr_stuck
theorem VsR.extract {c c' : Array Value} (h : VsR σ D c c') (i j : Nat) : VsR σ D (c.extract i j) (c'.extract i j) := by
  refine ⟨by simp [h.1], fun k x y hx hy => ?_⟩
  rw [Array.getElem?_extract] at hx hy
  rw [h.1] at hx
  split at hx
  · rename_i hlt
    rw [if_pos hlt] at hy
    exact h.2 _ x y hx hy
  · cases hx
theorem sr_part (t : TypeId) {c c' : Array Value} (h : VsR σ D c c') (off : Nat) : SRel σ D (⟨T, F'⟩ : Program) (⟨T, F⟩ : Program) (VR σ D) (part t c off) (part t c' off) := by
  unfold part
  refine sr_isAgg t (fun b => ?_)
  cases b
  · rcases hi : c[off]? with _ | x
    · exact sr_stuck
    · obtain ⟨y, hy, hxy⟩ := ArrR.get h hi
      simp only [hy]
      exact sr_pure hxy
  · refine sr_sizeOf t (fun n => sr_pure ?_)
    have := VsR.extract h off (off + n)
    exact .agg this.1 this.2
theorem sr_field (t : TypeId) {v v' : Value} (h : VR σ D v v') (i : Nat) : SRel σ D (⟨T, F'⟩ : Program) (⟨T, F⟩ : Program) (VR σ D) (Instr.field t v i) (Instr.field t v' i) := by
  unfold Instr.field
  refine sr_und t (fun d => ?_)
  cases d with
  | struct fields =>
    dsimp only
    cases fields[i]? with
    | none => exact sr_stuck
    | some f => exact (sr_asAgg h).bind (fun a b hab => sr_part _ hab _)
  | _ => exact sr_stuck
theorem sr_idx (t : TypeId) {v v' i i' : Value} (h : VR σ D v v') (hi : VR σ D i i') : SRel σ D (⟨T, F'⟩ : Program) (⟨T, F⟩ : Program) (VR σ D) (Instr.index t v i) (Instr.index t v' i') := by
  unfold Instr.index
  refine (sr_asIntOf hi).bind (fun a b e => ?_)
  subst e
  obtain ⟨k, n⟩ := a
  refine sr_und t (fun d => ?_)
  cases d with
  | array len elem =>
    cases h with
    | agg h1 h2 =>
      dsimp only
      split
      · exact sr_sizeOf _ (fun s => sr_part _ ⟨h1, h2⟩ _)
      · exact sr_bounds _ _ _ _
    | _ => exact sr_stuck
  | string =>
    cases h with
    | string s =>
      dsimp only
      split
      · exact sr_pure (.int _ _)
      · exact sr_bounds _ _ _ _
    | _ => exact sr_stuck
  | _ => exact sr_stuck
end
end Go.Proofs.Ytgfgoflhmikalaa.par

namespace Go.Proofs.Ytgfgoflhmikalaa.par
open Go
set_option linter.unusedVariables false
set_option linter.unusedSimpArgs false
inductive OptR {α β : Type} (R : α → β → Prop) : Option α → Option β → Prop
  | none : OptR R none none
  | some {a : α} {b : β} (h : R a b) : OptR R (some a) (some b)
section
variable {σ : Nat → Nat} {D : Nat → Prop} {T : Tables} {F' F : Array Func}
theorem fold_rel (off : Nat) : ∀ (l l' : List (Value × Nat)) (cs cs' : Array Value), l.length = l'.length → (∀ (i : Nat) (x y : Value × Nat), l[i]? = some x → l'[i]? = some y → VR σ D x.1 y.1 ∧ x.2 = y.2) → VsR σ D cs cs' →
    VsR σ D (l.foldl (fun cs (p : Value × Nat) => cs.setIfInBounds (off + p.2) p.1) cs) (l'.foldl (fun cs (p : Value × Nat) => cs.setIfInBounds (off + p.2) p.1) cs')
  | [], [], cs, cs', _, _, h => h
  | x :: l, y :: l', cs, cs', hl, hv, h => by
    have h0 := hv 0 x y rfl rfl
    simp only [List.foldl_cons]
    refine fold_rel off l l' _ _ (by simpa using hl) (fun i a b ha hb => hv (i + 1) a b (by simpa using ha) (by simpa using hb)) ?_
    rw [h0.2]
    exact h.set h0.1
  | [], y :: l', _, _, hl, _, _ => by simp at hl
  | x :: l, [], _, _, hl, _, _ => by simp at hl
theorem fill_rel (place : Nat → Option (Nat × Nat)) : ∀ (l l' : List (Nat × Value)) (cs cs' : Array Value), l.length = l'.length → (∀ (i : Nat) (x y : Nat × Value), l[i]? = some x → l'[i]? = some y → x.1 = y.1 ∧ VR σ D x.2 y.2) → VsR σ D cs cs' →
    OptR (VsR σ D) (Instr.fill place cs l) (Instr.fill place cs' l')
  | [], [], cs, cs', _, _, h => .some h
  | x :: l, y :: l', cs, cs', hl, hv, h => by
    obtain ⟨i, v⟩ := x
    obtain ⟨i', v'⟩ := y
    have h0 := hv 0 (i, v) (i', v') rfl rfl
    obtain ⟨rfl, hvv⟩ : i = i' ∧ VR σ D v v' := h0
    unfold Instr.fill
    cases place i with
    | none => exact .none
    | some p =>
      obtain ⟨off, size⟩ := p
      dsimp only
      have hc := cells_rel hvv
      rw [hc.1, h.1]
      split
      · exact .none
      · refine fill_rel place l l' _ _ (by simpa using hl) (fun i a b ha hb => hv (i + 1) a b (by simpa using ha) (by simpa using hb)) ?_
        rw [← Array.foldl_toList, ← Array.foldl_toList]
        refine fold_rel off _ _ _ _ (by simp [hc.1]) (fun i x y hx hy => ?_) h
        simp only [Array.getElem?_toList, Array.getElem?_zipIdx, Option.map_eq_some_iff] at hx hy
        obtain ⟨a, ha, rfl⟩ := hx
        obtain ⟨b, hb, rfl⟩ := hy
        exact ⟨hc.2 i a b ha hb, rfl⟩
  | [], y :: l', _, _, hl, _, _ => by simp at hl
  | x :: l, [], _, _, hl, _, _ => by simp at hl
/-- Parts of a literal. -/
def PsR (σ : Nat → Nat) (D : Nat → Prop) (p p' : Array (Nat × Value)) : Prop := p.size = p'.size ∧ ∀ (i : Nat) x y, p[i]? = some x → p'[i]? = some y → x.1 = y.1 ∧ VR σ D x.2 y.2
theorem sr_places (fs : Array Field) : SRel σ D (⟨T, F'⟩ : Program) (⟨T, F⟩ : Program) Eq (fs.mapM fun f => do pure (f.offset, ← sizeOf f.type)) (fs.mapM fun f => do pure (f.offset, ← sizeOf f.type)) := by
  rw [Array.mapM_eq_mapM_toList]
  refine SRel.bind (R := Eq) ?_ (fun a b e => sr_pure (by rw [e]))
  have key : ∀ l : List Field, SRel σ D (⟨T, F'⟩ : Program) (⟨T, F⟩ : Program) Eq (l.mapM fun f => do pure (f.offset, ← sizeOf f.type)) (l.mapM fun f => do pure (f.offset, ← sizeOf f.type)) := by
    intro l
    induction l with
    | nil => exact sr_pure rfl
    | cons f l ih =>
      simp only [List.mapM_cons]
      refine SRel.bind (R := Eq) (sr_sizeOf _ (fun n => sr_pure rfl)) (fun a b e => ?_)
      subst e
      exact ih.bind (fun a b e => sr_pure (by rw [e]))
  exact key _
theorem sr_panicEb {α β γ : Type} {R : α → β → Prop} (e : RuntimeError) (he : okE e = true) {f : γ → Sem α} {f' : γ → Sem β} : SRel σ D (⟨T, F'⟩ : Program) (⟨T, F⟩ : Program) R ((runtimePanic e : Sem γ) >>= f) ((runtimePanic e : Sem γ) >>= f') :=
  SRel.bind (R := fun _ _ => False) (sr_panicE e he) (fun _ _ h => h.elim)
theorem sr_build (hz : ZP T) (t : TypeId) {p p' : Array (Nat × Value)} (h : PsR σ D p p') : SRel σ D (⟨T, F'⟩ : Program) (⟨T, F⟩ : Program) (VR σ D) (Instr.build t p) (Instr.build t p') := by
  unfold Instr.build
  refine (sr_zero hz t).bind (fun z z' ⟨e, hp⟩ => ?_)
  subst e
  have hzc : VsR σ D z.cells z.cells := cells_rel (hp σ D)
  have hl : p.toList.length = p'.toList.length := by simpa using h.1
  have hv : ∀ (i : Nat) (x y : Nat × Value), p.toList[i]? = some x → p'.toList[i]? = some y → x.1 = y.1 ∧ VR σ D x.2 y.2 := fun i x y hx hy => h.2 i x y (by simpa using hx) (by simpa using hy)
  refine sr_und t (fun d => ?_)
  cases d with
  | struct fields =>
    refine (sr_places fields).bind (fun a b e => ?_)
    subst e
    have := fill_rel (σ := σ) (D := D) (a[·]?) p.toList p'.toList _ _ hl hv hzc
    revert this
    generalize Instr.fill (a[·]?) z.cells p.toList = x
    generalize Instr.fill (a[·]?) z.cells p'.toList = y
    intro hxy
    cases hxy with
    | none => exact sr_stuck
    | some h => exact sr_pure (.agg h.1 h.2)
  | array len elem =>
    refine sr_sizeOf _ (fun n => ?_)
    have := fill_rel (σ := σ) (D := D) (fun i => some (i * n, n)) p.toList p'.toList _ _ hl hv hzc
    revert this
    generalize Instr.fill (fun i => some (i * n, n)) z.cells p.toList = x
    generalize Instr.fill (fun i => some (i * n, n)) z.cells p'.toList = y
    intro hxy
    cases hxy with
    | none => exact sr_stuck
    | some h => exact sr_pure (.agg h.1 h.2)
  | _ => exact sr_stuck
theorem zero_fill {z : Array Value} (hz : VsR σ D z z) (hd : ∀ i : Nat, i < z.size → True) (n : Nat) : VsR σ D ((Array.range n).map (z[· % z.size]!)) ((Array.range n).map (z[· % z.size]!)) := by
  refine ⟨rfl, fun i x y hx hy => ?_⟩
  rw [hx] at hy
  cases hy
  simp only [Array.getElem?_map, Array.getElem?_range] at hx
  split at hx
  · simp only [Option.map_some, Option.some.injEq] at hx
    subst hx
    rw [getElem!_def]
    cases hg : z[i % z.size]? with
    | some v => exact hz.2 _ v v hg hg
    | none => exact .bool false
  · cases hx
theorem sr_buildSlice (hz : ZP T) (t : TypeId) (len : Nat) {p p' : Array (Nat × Value)} (h : PsR σ D p p') : SRel σ D (⟨T, F'⟩ : Program) (⟨T, F⟩ : Program) (VR σ D) (Instr.buildSlice t len p) (Instr.buildSlice t len p') := by
  unfold Instr.buildSlice
  have hl : p.toList.length = p'.toList.length := by simpa using h.1
  have hv : ∀ (i : Nat) (x y : Nat × Value), p.toList[i]? = some x → p'.toList[i]? = some y → x.1 = y.1 ∧ VR σ D x.2 y.2 := fun i x y hx hy => h.2 i x y (by simpa using hx) (by simpa using hy)
  refine sr_und t (fun d => ?_)
  cases d with
  | slice elem =>
    refine sr_sizeOf _ (fun n => ?_)
    dsimp only
    have tail : ∀ z : Array Value, VsR σ D z z → SRel σ D (⟨T, F'⟩ : Program) (⟨T, F⟩ : Program) (VR σ D) (match Instr.fill (fun i => some (i * n, n)) ((Array.range (len * n)).map (z[· % z.size]!)) p.toList with
        | some cells => (newRow elem cells >>= fun a => Pure.pure (Value.slice (some a) len len))
        | x => stuck "buildSlice: a part of the wrong size") (match Instr.fill (fun i => some (i * n, n)) ((Array.range (len * n)).map (z[· % z.size]!)) p'.toList with
        | some cells => (newRow elem cells >>= fun a => Pure.pure (Value.slice (some a) len len))
        | x => stuck "buildSlice: a part of the wrong size") := by
      intro z hzz
      have := fill_rel (σ := σ) (D := D) (fun i => some (i * n, n)) p.toList p'.toList _ _ hl hv (zero_fill hzz (fun _ _ => trivial) (len * n))
      revert this
      generalize Instr.fill (fun i => some (i * n, n)) ((Array.range (len * n)).map (z[· % z.size]!)) p.toList = x
      generalize Instr.fill (fun i => some (i * n, n)) ((Array.range (len * n)).map (z[· % z.size]!)) p'.toList = y
      intro hxy
      cases hxy with
      | none => exact sr_stuck
      | some h => exact (sr_newRow elem h).bind (fun a b hab => sr_pure (.slice hab _ _))
    split
    · exact sr_unsb
    · split
      · exact SRel.bind (R := fun a b => a = #[] ∧ b = #[]) (sr_pure ⟨rfl, rfl⟩) (fun a b ⟨e1, e2⟩ => by subst e1 e2; exact tail #[] ⟨rfl, fun i x y hx => by simp at hx⟩)
      · refine (sr_zero hz elem).bind (fun z z' ⟨e, hp⟩ => ?_)
        subst e
        exact SRel.bind (R := fun a b => a = z.cells ∧ b = z.cells) (sr_pure ⟨rfl, rfl⟩) (fun a b ⟨e1, e2⟩ => by subst e1 e2; exact tail _ (cells_rel (hp σ D)))
  | _ => exact sr_stuck
theorem sr_askRoom (n : Nat) : SRel σ D (⟨T, F'⟩ : Program) (⟨T, F⟩ : Program) (fun _ _ => True) (askRoom n) (askRoom n) := by
  unfold askRoom
  split
  · exact .mark .noRoom (.pure trivial)
  · exact sr_pure trivial
theorem sr_makeSlice (hz : ZP T) (t : TypeId) {l l' c c' : Value} (hl : VR σ D l l') (hc : VR σ D c c') : SRel σ D (⟨T, F'⟩ : Program) (⟨T, F⟩ : Program) (VR σ D) (Instr.makeSlice t l c) (Instr.makeSlice t l' c') := by
  unfold Instr.makeSlice
  refine sr_und t (fun d => ?_)
  cases d with
  | slice elem =>
    refine (sr_asInt hl).bind (fun a b e => ?_)
    subst e
    refine (sr_asInt hc).bind (fun a2 b e => ?_)
    subst e
    refine sr_info _ (fun i hi => ?_)
    dsimp only
    have tail : ∀ (n : Nat) (z : Array Value), VsR σ D z z → SRel σ D (⟨T, F'⟩ : Program) (⟨T, F⟩ : Program) (VR σ D) (newRow elem ((Array.range n).map (z[· % z.size]!)) >>= fun x => Pure.pure (Value.slice (some x) (IntKind.i64.wrap a).toNat (IntKind.i64.wrap a2).toNat)) (newRow elem ((Array.range n).map (z[· % z.size]!)) >>= fun x => Pure.pure (Value.slice (some x) (IntKind.i64.wrap a).toNat (IntKind.i64.wrap a2).toNat)) :=
      fun n z hzz => (sr_newRow elem (zero_fill hzz (fun _ _ => trivial) n)).bind (fun a b hab => sr_pure (.slice hab _ _))
    split
    · split
      · exact sr_panicEb (.error _) rfl
      · split
        · exact sr_panicEb (.error _) rfl
        · refine SRel.bind (R := Eq) (sr_choose _) (fun a b e => ?_)
          subst e
          exact sr_panicEb (.error _) rfl
    · refine (sr_askRoom _).bind (fun _ _ _ => ?_)
      refine sr_sizeOf _ (fun n => ?_)
      split
      · exact SRel.bind (R := fun a b => a = #[] ∧ b = #[]) (sr_pure ⟨rfl, rfl⟩) (fun a b ⟨e1, e2⟩ => by subst e1 e2; exact tail _ #[] ⟨rfl, fun i x y hx => by simp at hx⟩)
      · refine (sr_zero hz elem).bind (fun z z' ⟨e, hp⟩ => ?_)
        subst e
        exact SRel.bind (R := fun a b => a = z.cells ∧ b = z.cells) (sr_pure ⟨rfl, rfl⟩) (fun a b ⟨e1, e2⟩ => by subst e1 e2; exact tail _ _ (cells_rel (hp σ D)))
  | _ => exact sr_stuck
theorem sr_sliceBound {v v' : Value} (h : VR σ D v v') (y : Nat) (c : BoundsCode) : SRel σ D (⟨T, F'⟩ : Program) (⟨T, F⟩ : Program) Eq (Instr.sliceBound v y c) (Instr.sliceBound v' y c) := by
  unfold Instr.sliceBound
  refine (sr_asIntOf h).bind (fun a b e => ?_)
  subst e
  obtain ⟨k, n⟩ := a
  dsimp only
  split
  · exact sr_pure rfl
  · exact sr_bounds _ _ _ _
theorem sr_sb {α β : Type} {R : α → β → Prop} {v v' : Value} (h : VR σ D v v') {y : Nat} {c : BoundsCode} {f : Nat → Sem α} {f' : Nat → Sem β} (hf : ∀ n, SRel σ D (⟨T, F'⟩ : Program) (⟨T, F⟩ : Program) R (f n) (f' n)) : SRel σ D (⟨T, F'⟩ : Program) (⟨T, F⟩ : Program) R (Instr.sliceBound v y c >>= f) (Instr.sliceBound v' y c >>= f') := (sr_sliceBound h y c).bind (fun a b e => e ▸ hf a)
theorem sr_pb {α β γ : Type} {R : α → β → Prop} {a : γ} {f : γ → Sem α} {f' : γ → Sem β} (hf : SRel σ D (⟨T, F'⟩ : Program) (⟨T, F⟩ : Program) R (f a) (f' a)) : SRel σ D (⟨T, F'⟩ : Program) (⟨T, F⟩ : Program) R ((Pure.pure a : Sem γ) >>= f) ((Pure.pure a : Sem γ) >>= f') := hf
theorem sr_sliceBounds (b : Bool) (len cap : Nat) {l l' h h' m m' : Option Value} (hl : OptR (VR σ D) l l') (hh : OptR (VR σ D) h h') (hm : OptR (VR σ D) m m') : SRel σ D (⟨T, F'⟩ : Program) (⟨T, F⟩ : Program) Eq (Instr.sliceBounds b len cap l h m) (Instr.sliceBounds b len cap l' h' m') := by
  unfold Instr.sliceBounds
  cases hm <;> cases hh <;> cases hl <;> dsimp only
  all_goals (repeat (first | exact sr_stuckb | exact sr_pure rfl | refine sr_sb (by assumption) (fun n => ?_) | refine sr_pb ?_))
theorem sr_slice (t : TypeId) {v v' : Value} {l l' h h' m m' : Option Value} (hv : VR σ D v v') (hl : OptR (VR σ D) l l') (hh : OptR (VR σ D) h h') (hm : OptR (VR σ D) m m') : SRel σ D (⟨T, F'⟩ : Program) (⟨T, F⟩ : Program) (VR σ D) (Instr.slice t v l h m) (Instr.slice t v' l' h' m') := by
  have hsome : m.isSome = m'.isSome := by cases hm <;> rfl
  unfold Instr.slice
  refine sr_und t (fun d => ?_)
  cases d with
  | string =>
    cases hv with
    | string s =>
      dsimp only
      rw [hsome]
      split
      · exact sr_stuckb
      · exact (sr_sliceBounds false _ _ hl hh .none).bind (fun a b e => by subst e; exact sr_pure (.string _))
    | _ => exact sr_stuck
  | slice elem =>
    cases hv with
    | nils len cap =>
      refine (sr_sliceBounds true _ _ hl hh hm).bind (fun a b e => ?_)
      subst e
      refine sr_sizeOf _ (fun n => ?_)
      refine sr_pure ?_
      split <;> exact .nils _ _
    | @slice a b hab len cap =>
      refine (sr_sliceBounds true _ _ hl hh hm).bind (fun a b e => ?_)
      subst e
      refine sr_sizeOf _ (fun n => ?_)
      refine sr_pure ?_
      split
      · exact .slice hab _ _
      · exact .slice (hab.add _) _ _
    | _ => exact sr_stuck
  | pointer arr =>
    refine (sr_asAddr hv).bind (fun a b hab => ?_)
    refine sr_und arr (fun d => ?_)
    cases d with
    | array n elem =>
      refine (sr_sliceBounds false _ _ hl hh hm).bind (fun x y e => ?_)
      subst e
      refine sr_sizeOf _ (fun n => ?_)
      refine sr_pure ?_
      split
      · exact .slice hab _ _
      · exact .slice (hab.add _) _ _
    | _ => exact sr_stuck
  | _ => exact sr_stuck
theorem sr_sliceAt (t : TypeId) {v v' : Value} {l l' h h' m m' : Option Value} (hv : VR σ D v v') (hl : OptR (VR σ D) l l') (hh : OptR (VR σ D) h h') (hm : OptR (VR σ D) m m') : SRel σ D (⟨T, F'⟩ : Program) (⟨T, F⟩ : Program) (VR σ D) (Instr.sliceAt t v l h m) (Instr.sliceAt t v' l' h' m') := by
  unfold Instr.sliceAt
  refine sr_und t (fun d => ?_)
  cases d with
  | array n elem =>
    refine (sr_sure hv).bind (fun a b hab => ?_)
    refine (sr_sliceBounds false _ _ hl hh hm).bind (fun x y e => ?_)
    subst e
    refine sr_sizeOf _ (fun n => ?_)
    refine sr_pure ?_
    split
    · exact .slice hab _ _
    · exact .slice (hab.add _) _ _
  | _ => exact sr_slice t hv hl hh hm
end
end Go.Proofs.Ytgfgoflhmikalaa.par
