/- Part 4 of what the proofs stand on: lemmas on worlds, on goroutines, contracts of functions. No conditions. -/
import Derived.Test.YtgfgoflhmikalaaM03
namespace Go.Proofs.Ytgfgoflhmikalaa.par
open Go
set_option linter.unusedVariables false
set_option linter.unusedSimpArgs false
section
variable {σ : Nat → Nat} {D : Nat → Prop} {T : Tables} {F' F : Array Func}
theorem sr_lenOf {v v' : Value} (h : VR σ D v v') : SRel σ D (⟨T, F'⟩ : Program) (⟨T, F⟩ : Program) Eq (Builtin.lenOf v) (Builtin.lenOf v') := by
  cases h <;> first | exact sr_pure rfl | exact sr_stuck
theorem bytes_rel (s : ByteArray) (n : Nat) : VsR σ D ((s.extract 0 n).data.map fun b => .int .u8 b.toNat) ((s.extract 0 n).data.map fun b => .int .u8 b.toNat) := atoms_self (fun x hx => by
  obtain ⟨b, _, rfl⟩ := Array.mem_map.1 hx
  rfl)
theorem sr_firstCells (size n : Nat) {v v' : Value} (h : VR σ D v v') : SRel σ D (⟨T, F'⟩ : Program) (⟨T, F⟩ : Program) (VsR σ D) (Builtin.firstCells size n v) (Builtin.firstCells size n v') := by
  cases h with
  | slice h l c => exact sr_loadCells h _ 0 #[] #[] ⟨rfl, fun i x y hx => by simp at hx⟩
  | nils l c => exact sr_pure ⟨rfl, fun i x y hx => by simp at hx⟩
  | string s => exact sr_pure (bytes_rel s n)
  | _ => exact sr_stuck
theorem zeroCells_rel {z : Array Value} (hz : VsR σ D z z) (n : Nat) : VsR σ D (Builtin.zeroCells z n) (Builtin.zeroCells z n) := zero_fill hz (fun _ _ => trivial) _
theorem VsR.append {a a' b b' : Array Value} (h : VsR σ D a a') (k : VsR σ D b b') : VsR σ D (a ++ b) (a' ++ b') := by
  refine ⟨by simp [h.1, k.1], fun i x y hx hy => ?_⟩
  rw [Array.getElem?_append] at hx hy
  rw [h.1] at hx
  split at hx <;> rename_i hi
  · rw [if_pos hi] at hy; exact h.2 i x y hx hy
  · rw [if_neg hi] at hy; exact k.2 _ x y hx hy
/-- Trees that never panic. -/
inductive Mild {α : Type} : Sem α → Prop
  | pure (a : α) : Mild (.pure a)
  | shape {r : Nat} {k : Option (TypeId × Nat) → Sem α} (h : ∀ s, Mild (k s)) : Mild (.shape r k)
  | frozen {a : Addr} {k : Bool → Sem α} (h : ∀ b, Mild (k b)) : Mild (.frozen a k)
theorem Mild.bind {α γ : Type} {s : Sem α} (h : Mild s) {f : α → Sem γ} (hf : ∀ a, Mild (f a)) : Mild (s >>= f) := by
  show Mild (s.bind f)
  induction h with
  | pure a => exact hf a
  | shape _ ih => exact .shape ih
  | frozen _ ih => exact .frozen ih
theorem Mild.dead {α γ : Type} {s : Sem α} (h : Mild s) {f : α → Sem γ} (hf : ∀ a, Dead (f a)) : Dead (s >>= f) := by
  show Dead (s.bind f)
  induction h with
  | pure a => exact hf a
  | shape _ ih => exact .shape ih
  | frozen _ ih => exact .frozen ih
theorem mild_holds (a : Addr) (n : Nat) : Mild (Builtin.holdsCells a n) := .shape (fun s => by cases s <;> exact .pure _)
theorem mild_share (size sLen n : Nat) (b : Option Addr) (x : Value) : Mild (Builtin.mayShare size sLen n b x) := by
  unfold Builtin.mayShare
  have last : ∀ t : Bool, Mild (if !t then Pure.pure true else match x with
    | .slice (some b0) _ _ => do Pure.pure (!(← Builtin.holdsCells b0 (n * size)) || b.any (·.block == b0.block))
    | _ => Pure.pure false : Sem Bool) := by
    intro t
    split
    · exact .pure _
    · split
      · exact (mild_holds _ _).bind (fun _ => .pure _)
      · exact .pure _
  cases b with
  | none => exact last true
  | some a =>
    refine Mild.bind (mild_holds _ _) (fun p => ?_)
    refine Mild.bind (.frozen (fun b => .pure b)) (fun q => ?_)
    exact last _
theorem dead_app (size sLen n : Nat) (b : Option Addr) (x : Value) {α : Type} : Dead (do
    if !(← Builtin.mayShare size sLen n b x) then mark .noRoom
    unsupported (.resourceLimit "append: a slice or a string whose bytes no memory bears") : Sem α) := by
  refine (mild_share size sLen n b x).dead (fun t => ?_)
  cases t
  · exact .mark (.halt trivial)
  · exact .halt trivial
theorem sr_deadb {α β γ : Type} {R : α → β → Prop} {s : Sem γ} (h : Dead s) {f : γ → Sem α} {s' : Sem β} : SRel σ D (⟨T, F'⟩ : Program) (⟨T, F⟩ : Program) R (s >>= f) s' := .dead (h.bind f)
theorem sr_lenb {α β : Type} {R : α → β → Prop} {v v' : Value} (h : VR σ D v v') {f : Nat → Sem α} {f' : Nat → Sem β} (hf : ∀ n, SRel σ D (⟨T, F'⟩ : Program) (⟨T, F⟩ : Program) R (f n) (f' n)) : SRel σ D (⟨T, F'⟩ : Program) (⟨T, F⟩ : Program) R (Builtin.lenOf v >>= f) (Builtin.lenOf v' >>= f') := (sr_lenOf h).bind (fun a b e => e ▸ hf a)
theorem sr_asIntb {α β : Type} {R : α → β → Prop} {v v' : Value} (h : VR σ D v v') {f : Int → Sem α} {f' : Int → Sem β} (hf : ∀ n, SRel σ D (⟨T, F'⟩ : Program) (⟨T, F⟩ : Program) R (f n) (f' n)) : SRel σ D (⟨T, F'⟩ : Program) (⟨T, F⟩ : Program) R (asInt v >>= f) (asInt v' >>= f') := (sr_asInt h).bind (fun a b e => e ▸ hf a)
theorem sr_chooseb {α β : Type} {R : α → β → Prop} {q : Question} {f : Nat → Sem α} {f' : Nat → Sem β} (hf : ∀ n, SRel σ D (⟨T, F'⟩ : Program) (⟨T, F⟩ : Program) R (f n) (f' n)) : SRel σ D (⟨T, F'⟩ : Program) (⟨T, F⟩ : Program) R (choose q >>= f) (choose q >>= f') := (sr_choose q).bind (fun a b e => e ▸ hf a)
theorem sr_askb {α β : Type} {R : α → β → Prop} {n : Nat} {f : Unit → Sem α} {f' : Unit → Sem β} (hf : SRel σ D (⟨T, F'⟩ : Program) (⟨T, F⟩ : Program) R (f ()) (f' ())) : SRel σ D (⟨T, F'⟩ : Program) (⟨T, F⟩ : Program) R (askRoom n >>= f) (askRoom n >>= f') := (sr_askRoom n).bind (fun _ _ _ => hf)
theorem sr_firstb {α β : Type} {R : α → β → Prop} {s n : Nat} {v v' : Value} (h : VR σ D v v') {f : Array Value → Sem α} {f' : Array Value → Sem β} (hf : ∀ c c', VsR σ D c c' → SRel σ D (⟨T, F'⟩ : Program) (⟨T, F⟩ : Program) R (f c) (f' c')) : SRel σ D (⟨T, F'⟩ : Program) (⟨T, F⟩ : Program) R (Builtin.firstCells s n v >>= f) (Builtin.firstCells s n v' >>= f') := (sr_firstCells s n h).bind hf
theorem sr_zerob (hz : ZP T) {α β : Type} {R : α → β → Prop} {t : TypeId} {f : Value → Sem α} {f' : Value → Sem β} (hf : ∀ z, VsR σ D z.cells z.cells → SRel σ D (⟨T, F'⟩ : Program) (⟨T, F⟩ : Program) R (f z) (f' z)) : SRel σ D (⟨T, F'⟩ : Program) (⟨T, F⟩ : Program) R (zeroValue t >>= f) (zeroValue t >>= f') := (sr_zero hz t).bind (fun a b ⟨e, hp⟩ => by subst e; exact hf a (cells_rel (hp σ D)))
theorem sr_storeb {α β : Type} {R : α → β → Prop} {a a' : Addr} (h : AR σ D a a') {c c' : Array Value} (hc : VsR σ D c c') {f : Unit → Sem α} {f' : Unit → Sem β} (hf : SRel σ D (⟨T, F'⟩ : Program) (⟨T, F⟩ : Program) R (f ()) (f' ())) : SRel σ D (⟨T, F'⟩ : Program) (⟨T, F⟩ : Program) R (storeCells a c.toList >>= f) (storeCells a' c'.toList >>= f') :=
  (sr_storeCells h c.toList c'.toList 0 (by simpa using hc.1) (fun j x y hx hy => hc.2 j x y (by simpa using hx) (by simpa using hy))).bind (fun _ _ _ => hf)
theorem sr_newRowb {α β : Type} {R : α → β → Prop} {e : TypeId} {c c' : Array Value} (hc : VsR σ D c c') {f : Addr → Sem α} {f' : Addr → Sem β} (hf : ∀ a a', AR σ D a a' → SRel σ D (⟨T, F'⟩ : Program) (⟨T, F⟩ : Program) R (f a) (f' a')) : SRel σ D (⟨T, F'⟩ : Program) (⟨T, F⟩ : Program) R (newRow e c >>= f) (newRow e c' >>= f') := (sr_newRow e hc).bind hf
theorem VsR.nil : VsR σ D #[] #[] := ⟨rfl, fun i x y hx => by simp at hx⟩
theorem sr_zcb (hz : ZP T) {α β : Type} {R : α → β → Prop} {t : TypeId} {n : Nat} {f : Array Value → Sem α} {f' : Array Value → Sem β} (hf : ∀ c, VsR σ D c c → SRel σ D (⟨T, F'⟩ : Program) (⟨T, F⟩ : Program) R (f c) (f' c)) : SRel σ D (⟨T, F'⟩ : Program) (⟨T, F⟩ : Program) R ((zeroValue t >>= fun z => Pure.pure (Builtin.zeroCells z.cells n)) >>= f) ((zeroValue t >>= fun z => Pure.pure (Builtin.zeroCells z.cells n)) >>= f') :=
  SRel.bind (R := fun a b => a = b ∧ VsR σ D a a) ((sr_zero hz t).bind (fun a b ⟨e, hp⟩ => by subst e; exact sr_pure ⟨rfl, zeroCells_rel (cells_rel (hp σ D)) n⟩)) (fun a b ⟨e, h⟩ => by subst e; exact hf a h)
theorem sr_ite {α β : Type} {R : α → β → Prop} {c : Prop} [Decidable c] {x y : Sem α} {x' y' : Sem β} (h1 : c → SRel σ D (⟨T, F'⟩ : Program) (⟨T, F⟩ : Program) R x x') (h2 : ¬c → SRel σ D (⟨T, F'⟩ : Program) (⟨T, F⟩ : Program) R y y') : SRel σ D (⟨T, F'⟩ : Program) (⟨T, F⟩ : Program) R (if c then x else y) (if c then x' else y') := by
  by_cases h : c
  · rw [if_pos h, if_pos h]; exact h1 h
  · rw [if_neg h, if_neg h]; exact h2 h
theorem sr_pb2 {α β γ : Type} {R : α → β → Prop} {a : γ} {f : γ → Sem α} {f' : γ → Sem β} (hf : ∀ z, SRel σ D (⟨T, F'⟩ : Program) (⟨T, F⟩ : Program) R (f z) (f' z)) : SRel σ D (⟨T, F'⟩ : Program) (⟨T, F⟩ : Program) R ((Pure.pure a : Sem γ) >>= f) ((Pure.pure a : Sem γ) >>= f') := hf a
set_option maxHeartbeats 4000000 in
theorem sr_append (hz : ZP T) (at' : Array TypeId) (t : TypeId) {args args' : Array Value} (h : VsR σ D args args') : SRel σ D (⟨T, F'⟩ : Program) (⟨T, F⟩ : Program) (VR σ D) (Builtin.append_ at' t args) (Builtin.append_ at' t args') := by
  unfold Builtin.append_
  rcases h0 : at'[0]? with _ | t0
  · exact sr_stuck
  rcases h1 : args[0]? with _ | s
  · exact sr_stuck
  rcases h2 : args[1]? with _ | x
  · exact sr_stuck
  obtain ⟨s', hs', hss⟩ := h.get h1
  obtain ⟨x', hx', hxx⟩ := h.get h2
  rw [hs', hx']
  dsimp only
  refine sr_und t0 (fun d => ?_)
  cases d with
  | slice elem =>
    dsimp only
    cases hss with
    | nils sLen sCap =>
      have hss : VR σ D (.slice none sLen sCap) (.slice none sLen sCap) := .nils _ _
      dsimp only
      refine sr_sizeOf _ (fun size => ?_)
      clear h0 h1 hs' h2 hx' h
      cases at'[1]? with
      | none =>
        dsimp only
        all_goals (repeat' (first
          | with_reducible exact sr_stuckb | with_reducible exact sr_unsb | with_reducible exact sr_stuck | with_reducible exact sr_uns
          | with_reducible exact sr_panicEb (.error _) rfl | with_reducible exact sr_panicE (.error _) rfl
          | with_reducible exact sr_deadb (dead_app _ _ _ _ _)
          | with_reducible exact sr_pure (.nils _ _) | with_reducible exact sr_pure (.slice (by assumption) _ _) | with_reducible exact sr_pure (.int _ _)
          | with_reducible refine sr_info _ (fun _ _ => ?_) | with_reducible refine sr_sizeOf _ (fun _ => ?_) | with_reducible refine sr_und _ (fun _ => ?_)
          | with_reducible refine sr_askb ?_ | with_reducible refine sr_lenb (by assumption) (fun _ => ?_) | with_reducible refine sr_asIntb (by assumption) (fun _ => ?_) | with_reducible refine sr_chooseb (fun _ => ?_)
          | with_reducible refine sr_firstb (by assumption) (fun _ _ _ => ?_) | with_reducible refine sr_zcb hz (fun _ _ => ?_) | with_reducible refine sr_zerob hz (fun _ _ => ?_)
          | with_reducible refine sr_storeb (AR.add (by assumption) _) (by first | assumption | with_reducible exact VsR.nil | with_reducible exact zeroCells_rel (by assumption) _) ?_
          | with_reducible refine sr_newRowb (VsR.append (VsR.append (by assumption) (by first | assumption | with_reducible exact VsR.nil | with_reducible exact zeroCells_rel (by assumption) _)) (zeroCells_rel (by assumption) _)) (fun _ _ _ => ?_)
          | with_reducible refine sr_pb ?_
          | with_reducible refine sr_ite (fun _ => ?_) (fun _ => ?_)
          | (dsimp only; done)
          | (simp only [Bool.not_false, Bool.not_true, Bool.false_eq_true, if_true, if_false, false_or, true_or]; done)
          | (simp only [Bool.not_false, Bool.not_true, Bool.false_eq_true, if_true, if_false, false_or, true_or])
          | split))
      | some xt =>
        dsimp only
        refine sr_und _ (fun d => ?_)
        refine sr_pb2 (fun z => ?_)
        cases z
        all_goals (repeat' (first
          | with_reducible exact sr_stuckb | with_reducible exact sr_unsb | with_reducible exact sr_stuck | with_reducible exact sr_uns
          | with_reducible exact sr_panicEb (.error _) rfl | with_reducible exact sr_panicE (.error _) rfl
          | with_reducible exact sr_deadb (dead_app _ _ _ _ _)
          | with_reducible exact sr_pure (.nils _ _) | with_reducible exact sr_pure (.slice (by assumption) _ _) | with_reducible exact sr_pure (.int _ _)
          | with_reducible refine sr_info _ (fun _ _ => ?_) | with_reducible refine sr_sizeOf _ (fun _ => ?_) | with_reducible refine sr_und _ (fun _ => ?_)
          | with_reducible refine sr_askb ?_ | with_reducible refine sr_lenb (by assumption) (fun _ => ?_) | with_reducible refine sr_asIntb (by assumption) (fun _ => ?_) | with_reducible refine sr_chooseb (fun _ => ?_)
          | with_reducible refine sr_firstb (by assumption) (fun _ _ _ => ?_) | with_reducible refine sr_zcb hz (fun _ _ => ?_) | with_reducible refine sr_zerob hz (fun _ _ => ?_)
          | with_reducible refine sr_storeb (AR.add (by assumption) _) (by first | assumption | with_reducible exact VsR.nil | with_reducible exact zeroCells_rel (by assumption) _) ?_
          | with_reducible refine sr_newRowb (VsR.append (VsR.append (by assumption) (by first | assumption | with_reducible exact VsR.nil | with_reducible exact zeroCells_rel (by assumption) _)) (zeroCells_rel (by assumption) _)) (fun _ _ _ => ?_)
          | with_reducible refine sr_pb ?_
          | with_reducible refine sr_ite (fun _ => ?_) (fun _ => ?_)
          | (dsimp only; done)
          | (simp only [Bool.not_false, Bool.not_true, Bool.false_eq_true, if_true, if_false, false_or, true_or]; done)
          | (simp only [Bool.not_false, Bool.not_true, Bool.false_eq_true, if_true, if_false, false_or, true_or])
          | split))
    | @slice a b hab sLen sCap =>
      have hss : VR σ D (.slice (some a) sLen sCap) (.slice (some b) sLen sCap) := .slice hab _ _
      dsimp only
      refine sr_sizeOf _ (fun size => ?_)
      clear h0 h1 hs' h2 hx' h
      cases at'[1]? with
      | none =>
        dsimp only
        all_goals (repeat' (first
          | with_reducible exact sr_stuckb | with_reducible exact sr_unsb | with_reducible exact sr_stuck | with_reducible exact sr_uns
          | with_reducible exact sr_panicEb (.error _) rfl | with_reducible exact sr_panicE (.error _) rfl
          | with_reducible exact sr_deadb (dead_app _ _ _ _ _)
          | with_reducible exact sr_pure (.nils _ _) | with_reducible exact sr_pure (.slice (by assumption) _ _) | with_reducible exact sr_pure (.int _ _)
          | with_reducible refine sr_info _ (fun _ _ => ?_) | with_reducible refine sr_sizeOf _ (fun _ => ?_) | with_reducible refine sr_und _ (fun _ => ?_)
          | with_reducible refine sr_askb ?_ | with_reducible refine sr_lenb (by assumption) (fun _ => ?_) | with_reducible refine sr_asIntb (by assumption) (fun _ => ?_) | with_reducible refine sr_chooseb (fun _ => ?_)
          | with_reducible refine sr_firstb (by assumption) (fun _ _ _ => ?_) | with_reducible refine sr_zcb hz (fun _ _ => ?_) | with_reducible refine sr_zerob hz (fun _ _ => ?_)
          | with_reducible refine sr_storeb (AR.add (by assumption) _) (by first | assumption | with_reducible exact VsR.nil | with_reducible exact zeroCells_rel (by assumption) _) ?_
          | with_reducible refine sr_newRowb (VsR.append (VsR.append (by assumption) (by first | assumption | with_reducible exact VsR.nil | with_reducible exact zeroCells_rel (by assumption) _)) (zeroCells_rel (by assumption) _)) (fun _ _ _ => ?_)
          | with_reducible refine sr_pb ?_
          | with_reducible refine sr_ite (fun _ => ?_) (fun _ => ?_)
          | (dsimp only; done)
          | (simp only [Bool.not_false, Bool.not_true, Bool.false_eq_true, if_true, if_false, false_or, true_or]; done)
          | (simp only [Bool.not_false, Bool.not_true, Bool.false_eq_true, if_true, if_false, false_or, true_or])
          | split))
      | some xt =>
        dsimp only
        refine sr_und _ (fun d => ?_)
        refine sr_pb2 (fun z => ?_)
        cases z
        all_goals (repeat' (first
          | with_reducible exact sr_stuckb | with_reducible exact sr_unsb | with_reducible exact sr_stuck | with_reducible exact sr_uns
          | with_reducible exact sr_panicEb (.error _) rfl | with_reducible exact sr_panicE (.error _) rfl
          | with_reducible exact sr_deadb (dead_app _ _ _ _ _)
          | with_reducible exact sr_pure (.nils _ _) | with_reducible exact sr_pure (.slice (by assumption) _ _) | with_reducible exact sr_pure (.int _ _)
          | with_reducible refine sr_info _ (fun _ _ => ?_) | with_reducible refine sr_sizeOf _ (fun _ => ?_) | with_reducible refine sr_und _ (fun _ => ?_)
          | with_reducible refine sr_askb ?_ | with_reducible refine sr_lenb (by assumption) (fun _ => ?_) | with_reducible refine sr_asIntb (by assumption) (fun _ => ?_) | with_reducible refine sr_chooseb (fun _ => ?_)
          | with_reducible refine sr_firstb (by assumption) (fun _ _ _ => ?_) | with_reducible refine sr_zcb hz (fun _ _ => ?_) | with_reducible refine sr_zerob hz (fun _ _ => ?_)
          | with_reducible refine sr_storeb (AR.add (by assumption) _) (by first | assumption | with_reducible exact VsR.nil | with_reducible exact zeroCells_rel (by assumption) _) ?_
          | with_reducible refine sr_newRowb (VsR.append (VsR.append (by assumption) (by first | assumption | with_reducible exact VsR.nil | with_reducible exact zeroCells_rel (by assumption) _)) (zeroCells_rel (by assumption) _)) (fun _ _ _ => ?_)
          | with_reducible refine sr_pb ?_
          | with_reducible refine sr_ite (fun _ => ?_) (fun _ => ?_)
          | (dsimp only; done)
          | (simp only [Bool.not_false, Bool.not_true, Bool.false_eq_true, if_true, if_false, false_or, true_or]; done)
          | (simp only [Bool.not_false, Bool.not_true, Bool.false_eq_true, if_true, if_false, false_or, true_or])
          | split))
    | _ => exact sr_stuck
  | _ => exact sr_stuck
theorem sr_copy (at' : Array TypeId) (t : TypeId) {args args' : Array Value} (h : VsR σ D args args') : SRel σ D (⟨T, F'⟩ : Program) (⟨T, F⟩ : Program) (VR σ D) (Builtin.copy_ at' t args) (Builtin.copy_ at' t args') := by
  unfold Builtin.copy_
  rcases h0 : at'[0]? with _ | t0
  · exact sr_stuck
  rcases h1 : args[0]? with _ | s
  · exact sr_stuck
  rcases h2 : args[1]? with _ | x
  · exact sr_stuck
  obtain ⟨s', hs', hss⟩ := h.get h1
  obtain ⟨x', hx', hxx⟩ := h.get h2
  rw [hs', hx']
  dsimp only
  refine sr_und t0 (fun d => ?_)
  cases d with
  | slice elem =>
    dsimp only
    cases hss with
    | nils sLen sCap =>
      refine sr_lenb hxx (fun n => ?_)
      refine sr_sizeOf _ (fun m => ?_)
      refine sr_firstb hxx (fun c c' hc => ?_)
      exact sr_pure (.int _ _)
    | @slice a b hab sLen sCap =>
      refine sr_lenb hxx (fun n => ?_)
      refine sr_sizeOf _ (fun m => ?_)
      refine sr_firstb hxx (fun c c' hc => ?_)
      exact sr_storeb hab hc (sr_pure (.int _ _))
    | _ => exact sr_stuck
  | _ => exact sr_stuck
theorem sr_len (at' : Array TypeId) (t : TypeId) {args args' : Array Value} (h : VsR σ D args args') : SRel σ D (⟨T, F'⟩ : Program) (⟨T, F⟩ : Program) (VR σ D) (Builtin.len_ at' t args) (Builtin.len_ at' t args') := by
  unfold Builtin.len_
  rcases h0 : at'[0]? with _ | t0
  · exact sr_stuck
  rcases h1 : args[0]? with _ | s
  · exact sr_stuck
  obtain ⟨s', hs', hss⟩ := h.get h1
  rw [hs']
  dsimp only
  refine sr_und t0 (fun d => ?_)
  cases d with
  | slice e => cases hss <;> first | exact sr_pure (.int _ _) | exact sr_stuck
  | string => cases hss <;> first | exact sr_pure (.int _ _) | exact sr_stuck
  | array n e => exact sr_pure (.int _ _)
  | pointer arr =>
    refine sr_und arr (fun d => ?_)
    cases d <;> first | exact sr_pure (.int _ _) | exact sr_stuck
  | map k e =>
    cases hss with
    | nilm => exact sr_pure (.int _ _)
    | map hd =>
      refine .getObj hd (fun o o' ho => ?_)
      cases ho <;> exact sr_stuck
    | _ => exact sr_stuck
  | chan k e =>
    cases hss with
    | nilc => exact sr_pure (.int _ _)
    | _ => exact sr_stuck
  | _ => exact sr_stuck
theorem sr_stringOp (op : BinOp) (a b : ByteArray) : SRel σ D (⟨T, F'⟩ : Program) (⟨T, F⟩ : Program) (VR σ D) (Op.stringOp op a b) (Op.stringOp op a b) := by
  unfold Op.stringOp
  cases op <;> dsimp only <;> first | exact sr_stuck | exact sr_pure (.bool _) | (split <;> first | exact sr_uns | exact sr_pure (.string _))
theorem sr_min2 {a a' b b' : Value} (ha : VR σ D a a') (hb : VR σ D b b') : SRel σ D (⟨T, F'⟩ : Program) (⟨T, F⟩ : Program) (VR σ D) (Builtin.min2 a b) (Builtin.min2 a' b') := by
  cases ha with
  | int k n => cases hb <;> first | exact sr_pure (.int _ _) | exact sr_stuck | exact sr_uns
  | float k n =>
    cases hb with
    | float k' m =>
      have e : (Builtin.min2 (.float k n) (.float k' m)) = (match k.format.order n m with
        | none => do Pure.pure (.float k (← choose (.nanMinMax k false n m)))
        | some .lt => Pure.pure (.float k n)
        | some .gt => Pure.pure (.float k m)
        | some .eq => Pure.pure (.float k (if (k.decode n).neg then n else m))) := rfl
      rw [e]
      cases k.format.order n m with
      | none => exact sr_chooseb (fun _ => sr_pure (.float _ _))
      | some o => cases o <;> exact sr_pure (.float _ _)
    | _ => first | exact sr_stuck | exact sr_uns
  | string s =>
    cases hb with
    | string s' =>
      refine (sr_stringOp _ _ _).bind (fun x y hxy => ?_)
      refine (sr_asBool hxy).bind (fun p q e => ?_)
      subst e
      exact sr_pure (.string _)
    | _ => first | exact sr_stuck | exact sr_uns
  | _ => cases hb <;> first | exact sr_stuck | exact sr_uns
end
end Go.Proofs.Ytgfgoflhmikalaa.par

namespace Go.Proofs.Ytgfgoflhmikalaa.par
open Go
set_option linter.unusedVariables false
set_option linter.unusedSimpArgs false
section
variable {σ : Nat → Nat} {D : Nat → Prop} {T : Tables} {F' F : Array Func}
theorem sr_intArith (op : BinOp) (k : IntKind) (a b : Int) : SRel σ D (⟨T, F'⟩ : Program) (⟨T, F⟩ : Program) (VR σ D) (Op.intArith op k a b) (Op.intArith op k a b) := by
  unfold Op.intArith
  cases op <;> first | exact sr_pure (.int _ _) | exact sr_stuck
theorem sr_intDiv (op : BinOp) (k : IntKind) (a b : Int) : SRel σ D (⟨T, F'⟩ : Program) (⟨T, F⟩ : Program) (VR σ D) (Op.intDiv op k a b) (Op.intDiv op k a b) := by
  unfold Op.intDiv
  refine sr_ite (fun _ => sr_panicE (.error _) rfl) (fun _ => ?_)
  cases op <;> first | exact sr_pure (.int _ _) | exact sr_stuck
theorem sr_intBits (op : BinOp) (k : IntKind) (a b : Int) : SRel σ D (⟨T, F'⟩ : Program) (⟨T, F⟩ : Program) (VR σ D) (Op.intBits op k a b) (Op.intBits op k a b) := by
  unfold Op.intBits
  cases op <;> first | exact sr_pure (.int _ _) | exact sr_stuck
theorem sr_shift (op : BinOp) (k : IntKind) (a : Int) (k' : IntKind) (b : Int) : SRel σ D (⟨T, F'⟩ : Program) (⟨T, F⟩ : Program) (VR σ D) (Op.shift op k a k' b) (Op.shift op k a k' b) := by
  unfold Op.shift
  refine sr_ite (fun _ => sr_panicE (.error _) rfl) (fun _ => ?_)
  cases op <;> first | exact sr_pure (.int _ _) | exact sr_stuck
theorem sr_intCmp (op : BinOp) (a b : Int) : SRel σ D (⟨T, F'⟩ : Program) (⟨T, F⟩ : Program) (VR σ D) (Op.intCmp op a b) (Op.intCmp op a b) := by
  unfold Op.intCmp
  cases op <;> first | exact sr_pure (.bool _) | exact sr_stuck
theorem sr_unary (op : UnOp) {a a' : Value} (h : VR σ D a a') : SRel σ D (⟨T, F'⟩ : Program) (⟨T, F⟩ : Program) (VR σ D) (Op.unary op a) (Op.unary op a') := by
  cases op <;> cases h <;> first | exact sr_intArith .sub _ 0 _ | exact sr_intBits .xor _ _ _ | exact sr_pure (.float _ _) | exact sr_pure (.complex _ _ _) | exact sr_pure (.bool _) | exact sr_stuck | exact sr_uns
theorem sr_makeIface (t : TypeId) {a a' : Value} (h : VR σ D a a') : SRel σ D (⟨T, F'⟩ : Program) (⟨T, F⟩ : Program) (VR σ D) (Instr.makeInterface t a) (Instr.makeInterface t a') := by
  unfold Instr.makeInterface
  refine sr_und t (fun d => ?_)
  cases d <;> first | exact sr_pure (.iface _ h) | exact sr_stuck
theorem sr_makeFunc (f : FuncId) (h0 : nd f = false) {a a' c c' : Array Value} (h : VsR σ D a a') (k : VsR σ D c c') : SRel σ D (⟨T, F'⟩ : Program) (⟨T, F⟩ : Program) (VR σ D) (Instr.makeFunc (.func f) a c) (Instr.makeFunc (.func f) a' c') := sr_pure (.func f h.1 h.2 k.1 k.2 h0)
theorem sr_s2b (e : TypeId) (s : ByteArray) : SRel σ D (⟨T, F'⟩ : Program) (⟨T, F⟩ : Program) (VR σ D) (Conv.stringToBytes e s) (Conv.stringToBytes e s) := by
  unfold Conv.stringToBytes
  refine sr_chooseb (fun cap => ?_)
  have hc : VsR σ D (s.data.map (fun b => Value.int .u8 b.toNat) ++ Array.replicate (cap - s.size) (.int .u8 0)) (s.data.map (fun b => Value.int .u8 b.toNat) ++ Array.replicate (cap - s.size) (.int .u8 0)) := atoms_self (fun x hx => by
    rcases Array.mem_append.1 hx with hx | hx
    · obtain ⟨b, _, rfl⟩ := Array.mem_map.1 hx; rfl
    · obtain ⟨_, rfl⟩ := Array.mem_replicate.1 hx; rfl)
  refine sr_newRowb hc (fun a a' ha => ?_)
  have e1 : a'.block = σ a.block := by rw [ha.2]
  refine SRel.bind (R := fun _ _ => True) ?_ (fun _ _ _ => sr_pure (.slice ha _ _))
  unfold markStringish
  rw [e1]
  refine (sr_shape ha.1).bind (fun x y e => ?_)
  subst e
  cases x with
  | none => exact sr_pure trivial
  | some p => exact .freeze ⟨ha.1, rfl⟩ (.pure trivial)
theorem sr_b2s {a a' : Value} (h : VR σ D a a') : SRel σ D (⟨T, F'⟩ : Program) (⟨T, F⟩ : Program) (VR σ D) (Conv.bytesToString a) (Conv.bytesToString a') := by
  unfold Conv.bytesToString
  cases h with
  | nils l c => exact sr_pure (.string _)
  | slice h l c =>
    refine (sr_loadCells h l 0 #[] #[] VsR.nil).bind (fun c c' hc => ?_)
    refine SRel.bind (R := Eq) ?_ (fun x y e => by subst e; exact sr_pure (.string _))
    rw [← Array.forIn_toList, ← Array.forIn_toList]
    have key : ∀ (xs ys : List Value) (s : ByteArray), xs.length = ys.length → (∀ (i : Nat) (x y : Value), xs[i]? = some x → ys[i]? = some y → VR σ D x y) → SRel σ D (⟨T, F'⟩ : Program) (⟨T, F⟩ : Program) Eq
        (forIn xs s fun c __s => match c with
            | Value.int IntKind.u8 n => Pure.pure (ForInStep.yield (__s.push (UInt8.ofNat n.toNat)))
            | x => do
              stuck "bytesToString: byte expected"
              Pure.pure (ForInStep.yield __s))
        (forIn ys s fun c __s => match c with
            | Value.int IntKind.u8 n => Pure.pure (ForInStep.yield (__s.push (UInt8.ofNat n.toNat)))
            | x => do
              stuck "bytesToString: byte expected"
              Pure.pure (ForInStep.yield __s)) := by
      intro xs
      induction xs with
      | nil =>
        intro ys s hl hv
        cases ys with
        | nil => exact sr_pure rfl
        | cons y ys => simp at hl
      | cons x xs ih =>
        intro ys s hl hv
        cases ys with
        | nil => simp at hl
        | cons y ys =>
          simp only [List.forIn_cons]
          have h0 := hv 0 x y rfl rfl
          cases h0 with
          | int k n =>
            cases k with
            | u8 => exact ih ys _ (by simpa using hl) (fun i a b ha hb => hv (i + 1) a b (by simpa using ha) (by simpa using hb))
            | _ => exact sr_stuckb
          | _ => exact sr_stuckb
    exact key _ _ _ (by simpa using hc.1) (fun i x y hx hy => hc.2 i x y (by simpa using hx) (by simpa using hy))
  | _ => exact sr_stuck
end
end Go.Proofs.Ytgfgoflhmikalaa.par

namespace Go.Proofs.Ytgfgoflhmikalaa.par
open Go
set_option linter.unusedVariables false
set_option linter.unusedSimpArgs false
inductive StepR {β β' : Type} (R : β → β' → Prop) : ForInStep β → ForInStep β' → Prop
  | yield {s : β} {s' : β'} (h : R s s') : StepR R (.yield s) (.yield s')
  | done {s : β} {s' : β'} (h : R s s') : StepR R (.done s) (.done s')
section
variable {σ : Nat → Nat} {D : Nat → Prop} {T : Tables} {F' F : Array Func}
theorem sr_forL {ι β β' : Type} {R : β → β' → Prop} {f : ι → β → Sem (ForInStep β)} {f' : ι → β' → Sem (ForInStep β')} (h : ∀ x s s', R s s' → SRel σ D (⟨T, F'⟩ : Program) (⟨T, F⟩ : Program) (StepR R) (f x s) (f' x s')) : ∀ (xs : List ι) (s : β) (s' : β'), R s s' → SRel σ D (⟨T, F'⟩ : Program) (⟨T, F⟩ : Program) R (forIn xs s f) (forIn xs s' f')
  | [], s, s', hs => sr_pure hs
  | x :: xs, s, s', hs => by
    simp only [List.forIn_cons]
    refine (h x s s' hs).bind (fun a b hab => ?_)
    cases hab with
    | yield h2 => exact sr_forL h xs _ _ h2
    | done h2 => exact sr_pure h2
theorem sr_forA {ι β β' : Type} {R : β → β' → Prop} {f : ι → β → Sem (ForInStep β)} {f' : ι → β' → Sem (ForInStep β')} (h : ∀ x s s', R s s' → SRel σ D (⟨T, F'⟩ : Program) (⟨T, F⟩ : Program) (StepR R) (f x s) (f' x s')) (xs : Array ι) (s : β) (s' : β') (hs : R s s') : SRel σ D (⟨T, F'⟩ : Program) (⟨T, F⟩ : Program) R (forIn xs s f) (forIn xs s' f') := by
  rw [← Array.forIn_toList, ← Array.forIn_toList]
  exact sr_forL h _ _ _ hs
theorem sr_forR {β β' : Type} {R : β → β' → Prop} {f : Nat → β → Sem (ForInStep β)} {f' : Nat → β' → Sem (ForInStep β')} (h : ∀ x s s', R s s' → SRel σ D (⟨T, F'⟩ : Program) (⟨T, F⟩ : Program) (StepR R) (f x s) (f' x s')) (n : Nat) (s : β) (s' : β') (hs : R s s') : SRel σ D (⟨T, F'⟩ : Program) (⟨T, F⟩ : Program) R (forIn [0:n] s f) (forIn [0:n] s' f') := by
  rw [Std.Legacy.Range.forIn_eq_forIn_range', Std.Legacy.Range.forIn_eq_forIn_range']
  exact sr_forL h _ _ _ hs
theorem sr_stringish {a a' : Addr} (h : AR σ D a a') : SRel σ D (⟨T, F'⟩ : Program) (⟨T, F⟩ : Program) Eq (stringish a) (stringish a') := by
  unfold stringish
  have e1 : a'.block = σ a.block := by rw [h.2]
  rw [e1]
  refine (sr_frozen h).bind (fun x y e => ?_)
  subst e
  refine sr_ite (fun _ => sr_pure rfl) (fun _ => ?_)
  refine (sr_shape h.1).bind (fun x y e => ?_)
  subst e
  cases x with
  | none => exact sr_pure rfl
  | some p => exact sr_frozen ⟨h.1, rfl⟩
theorem sr_sameAddr (hinj : ∀ r r', D r → D r' → σ r = σ r' → r = r') {a a' b b' : Addr} (ha : AR σ D a a') (hb : AR σ D b b') : SRel σ D (⟨T, F'⟩ : Program) (⟨T, F⟩ : Program) Eq (sameAddr a b) (sameAddr a' b') := by
  unfold sameAddr
  have eb : (a'.block == b'.block) = (a.block == b.block) := by
    rw [Bool.eq_iff_iff]
    simp only [beq_iff_eq]
    constructor
    · intro h
      rw [ha.2, hb.2] at h
      exact hinj _ _ ha.1 hb.1 h
    · intro h
      rw [ha.2, hb.2]
      exact congrArg σ h
  have ee : (a' == b') = (a == b) := by
    rw [Bool.eq_iff_iff]
    simp only [beq_iff_eq]
    constructor
    · intro h
      have h1 : a'.block = b'.block := by rw [h]
      have h2 : a'.off = b'.off := by rw [h]
      have h3 : a'.spot = b'.spot := by rw [h]
      rw [ha.2, hb.2] at h1 h2 h3
      have h4 := hinj _ _ ha.1 hb.1 h1
      cases a; cases b
      dsimp only at h2 h3 h4
      subst h2 h3 h4
      rfl
    · intro h
      rw [ha.2, hb.2, h]
  rw [eb, ee]
  refine sr_ite (fun _ => sr_pure rfl) (fun _ => ?_)
  refine (sr_frozen ha).bind (fun x y e => ?_)
  subst e
  refine (sr_frozen hb).bind (fun z y e => ?_)
  subst e
  dsimp only
  refine sr_ite (fun _ => sr_unsb) (fun _ => ?_)
  refine (sr_noView ha).bind (fun _ _ _ => ?_)
  refine (sr_noView hb).bind (fun _ _ _ => ?_)
  refine SRel.bind (R := Eq) ?_ (fun x y e => ?_)
  · unfold mayBeOne
    have none : ∀ {x x' : Addr}, AR σ D x x' → SRel σ D (⟨T, F'⟩ : Program) (⟨T, F⟩ : Program) Eq (do Pure.pure ((← shape x.block) matches some (_, 0)) : Sem Bool) (do Pure.pure ((← shape x'.block) matches some (_, 0)) : Sem Bool) := by
      intro x x' hx
      have e1 : x'.block = σ x.block := by rw [hx.2]
      rw [e1]
      exact (sr_shape hx.1).bind (fun p q e => by subst e; exact sr_pure rfl)
    refine (sr_stringish ha).bind (fun p q e => ?_)
    subst e
    refine (sr_stringish hb).bind (fun p2 q e => ?_)
    subst e
    refine (none ha).bind (fun q1 q e => ?_)
    subst e
    refine (none hb).bind (fun q2 q e => ?_)
    subst e
    exact sr_pure rfl
  · subst e
    exact sr_ite (fun _ => sr_chooseb (fun _ => sr_pure rfl)) (fun _ => sr_pure rfl)
theorem sr_eqGuardIn : ∀ (d : Nat) (t : TypeId) {a a' b b' : Value}, VR σ D a a' → VR σ D b b' → SRel σ D (⟨T, F'⟩ : Program) (⟨T, F⟩ : Program) Eq (Op.eqGuardIn d t a b) (Op.eqGuardIn d t a' b')
  | 0, t, a, a', b, b', ha, hb => sr_uns
  | d + 1, t, a, a', b, b', ha, hb => by
    unfold Op.eqGuardIn
    refine sr_und t (fun u => ?_)
    have body : ∀ {x x' y y' : Array Value} (ft : TypeId) (o : Nat) (s s' : Option Bool × Unit), VsR σ D x x' → VsR σ D y y' → s = s' → SRel σ D (⟨T, F'⟩ : Program) (⟨T, F⟩ : Program) (StepR Eq)
        (do let p ← part ft x o; let q ← part ft y o; let r ← Op.eqGuardIn d ft p q; if r = true then Pure.pure (ForInStep.done (some true, ())) else Pure.pure (ForInStep.yield (none, ())))
        (do let p ← part ft x' o; let q ← part ft y' o; let r ← Op.eqGuardIn d ft p q; if r = true then Pure.pure (ForInStep.done (some true, ())) else Pure.pure (ForInStep.yield (none, ()))) := by
      intro x x' y y' ft o s s' hx hy e
      refine (sr_part ft hx o).bind (fun p p' hp => ?_)
      refine (sr_part ft hy o).bind (fun q q' hq => ?_)
      refine (sr_eqGuardIn d ft hp hq).bind (fun r r' e => ?_)
      subst e
      exact sr_ite (fun _ => sr_pure (.done rfl)) (fun _ => sr_pure (.yield rfl))
    cases u with
    | interface ms => cases ha <;> cases hb <;> first | exact sr_pure rfl | (refine (show SRel σ D (⟨T, F'⟩ : Program) (⟨T, F⟩ : Program) Eq (Pure.pure false) _ from ?_); split <;> first | exact sr_pure rfl | (exfalso; simp_all [okU]))
    | struct fs =>
      cases ha with
      | agg h1 h2 =>
        cases hb with
        | agg h3 h4 =>
          refine SRel.bind (R := Eq) (sr_forA (fun f s s' e => ?_) fs _ _ rfl) (fun a b e => by subst e; obtain ⟨x, z⟩ := a; cases x <;> exact sr_pure rfl)
          exact sr_ite (fun _ => body f.type f.offset s s' ⟨h1, h2⟩ ⟨h3, h4⟩ e) (fun _ => sr_pure (.yield rfl))
        | undef v hv => refine (show SRel σ D (⟨T, F'⟩ : Program) (⟨T, F⟩ : Program) Eq (Pure.pure false) _ from ?_); split <;> first | exact sr_pure rfl | (exfalso; simp_all [okU])
        | _ => exact sr_pure rfl
      | undef v hv => refine (show SRel σ D (⟨T, F'⟩ : Program) (⟨T, F⟩ : Program) Eq (Pure.pure false) _ from ?_); split <;> first | exact sr_pure rfl | (exfalso; simp_all [okU])
      | _ => exact sr_pure rfl
    | array len el =>
      cases ha with
      | agg h1 h2 =>
        cases hb with
        | agg h3 h4 =>
          refine sr_sizeOf _ (fun n => ?_)
          refine SRel.bind (R := Eq) (sr_forR (fun i s s' e => ?_) len _ _ rfl) (fun a b e => by subst e; obtain ⟨x, z⟩ := a; cases x <;> exact sr_pure rfl)
          exact body el (i * n) s s' ⟨h1, h2⟩ ⟨h3, h4⟩ e
        | undef v hv => refine (show SRel σ D (⟨T, F'⟩ : Program) (⟨T, F⟩ : Program) Eq (Pure.pure false) _ from ?_); split <;> first | exact sr_pure rfl | (exfalso; simp_all [okU])
        | _ => exact sr_pure rfl
      | undef v hv => refine (show SRel σ D (⟨T, F'⟩ : Program) (⟨T, F⟩ : Program) Eq (Pure.pure false) _ from ?_); split <;> first | exact sr_pure rfl | (exfalso; simp_all [okU])
      | _ => exact sr_pure rfl
    | _ => exact sr_pure rfl
end
end Go.Proofs.Ytgfgoflhmikalaa.par
