/- Part 6 of what the proofs stand on: lemmas on worlds, on goroutines, contracts of functions. No conditions. -/
import Derived.Test.YtgfgoflhmikalaaM05
namespace Go.Proofs.Ytgfgoflhmikalaa.par
open Go
set_option linter.unusedVariables false
set_option linter.unusedSimpArgs false
section
variable {σ : Nat → Nat} {D : Nat → Prop} {T : Tables} {F' F : Array Func}
theorem atom_rel {v : Value} (h : atom_ v) : VR σ D v v := atom_self h
def Inj (σ : Nat → Nat) (D : Nat → Prop) : Prop := ∀ r r', D r → D r' → σ r = σ r' → r = r'
def Glob (σ : Nat → Nat) (D : Nat → Prop) (T : Tables) : Prop := ∀ r, D r → (σ r < T.globals.size ↔ r < T.globals.size)
section
variable {op : BinOp} {t : TypeId}
theorem bin_eq (hinj : Inj σ D) (hG : Glob σ D T) {a a' b b' : Value} (ha : VR σ D a a') (hb : VR σ D b b') : SRel σ D (⟨T, F'⟩ : Program) (⟨T, F⟩ : Program) (VR σ D) (do Pure.pure (.bool (← Op.equal t a b)) : Sem Value) (do Pure.pure (.bool (← Op.equal t a' b')) : Sem Value) :=
  (sr_equal te_all hinj hG t ha hb).bind (fun x y e => by subst e; exact sr_pure (.bool _))
theorem bin_ne (hinj : Inj σ D) (hG : Glob σ D T) {a a' b b' : Value} (ha : VR σ D a a') (hb : VR σ D b b') : SRel σ D (⟨T, F'⟩ : Program) (⟨T, F⟩ : Program) (VR σ D) (do Pure.pure (.bool (!(← Op.equal t a b))) : Sem Value) (do Pure.pure (.bool (!(← Op.equal t a' b'))) : Sem Value) :=
  (sr_equal te_all hinj hG t ha hb).bind (fun x y e => by subst e; exact sr_pure (.bool _))
theorem bin_int (hinj : Inj σ D) (hG : Glob σ D T) {k : IntKind} {n : Int} {b b' : Value} (hb : VR σ D b b') (hu : b ≠ .tuple #[]) : SRel σ D (⟨T, F'⟩ : Program) (⟨T, F⟩ : Program) (VR σ D) (binOp op t (.int k n) b) (binOp op t (.int k n) b') := by
  cases hb with
  | int k' m => cases op <;> first | exact sr_shift .shl k n k' m | exact sr_shift .shr k n k' m | exact sr_ite (fun _ => sr_stuck) (fun _ => sr_intArith _ _ _ _) | exact sr_ite (fun _ => sr_stuck) (fun _ => sr_intDiv _ _ _ _) | exact sr_ite (fun _ => sr_stuck) (fun _ => sr_intBits _ _ _ _) | exact sr_ite (fun _ => sr_stuck) (fun _ => sr_intCmp _ _ _)
  | nilp => cases op <;> first | exact bin_eq hinj hG (.int k n) .nilp | exact bin_ne hinj hG (.int k n) .nilp | exact sr_movedNumber t .nilp (.int k n) nilp_ne | exact sr_uns
  | ptr h => cases op <;> first | exact bin_eq hinj hG (.int k n) (.ptr h) | exact bin_ne hinj hG (.int k n) (.ptr h) | exact sr_movedNumber t (.ptr h) (.int k n) ptr_ne | exact (sr_behind h).bind (fun x y ⟨hx, _⟩ => sr_addrMod _ hx _) | exact sr_uns
  | undef v hv => exact absurd rfl hu
  | bool x => cases op <;> first | exact sr_stuck | exact bin_eq hinj hG (.int k n) (.bool x) | exact bin_ne hinj hG (.int k n) (.bool x)
  | float x y => cases op <;> first | exact sr_stuck | exact bin_eq hinj hG (.int k n) (.float x y) | exact bin_ne hinj hG (.int k n) (.float x y)
  | complex x y z => cases op <;> first | exact sr_stuck | exact bin_eq hinj hG (.int k n) (.complex x y z) | exact bin_ne hinj hG (.int k n) (.complex x y z)
  | string x => cases op <;> first | exact sr_stuck | exact bin_eq hinj hG (.int k n) (.string x) | exact bin_ne hinj hG (.int k n) (.string x)
  | nils x y => cases op <;> first | exact sr_stuck | exact bin_eq hinj hG (.int k n) (.nils x y) | exact bin_ne hinj hG (.int k n) (.nils x y)
  | slice h x y => cases op <;> first | exact sr_stuck | exact bin_eq hinj hG (.int k n) (.slice h x y) | exact bin_ne hinj hG (.int k n) (.slice h x y)
  | nilm => cases op <;> first | exact sr_stuck | exact bin_eq hinj hG (.int k n) .nilm | exact bin_ne hinj hG (.int k n) .nilm
  | map h => cases op <;> first | exact sr_stuck | exact bin_eq hinj hG (.int k n) (.map h) | exact bin_ne hinj hG (.int k n) (.map h)
  | nilc => cases op <;> first | exact sr_stuck | exact bin_eq hinj hG (.int k n) .nilc | exact bin_ne hinj hG (.int k n) .nilc
  | func fn h1 h2 h3 h4 h0 => cases op <;> first | exact sr_stuck | exact bin_eq hinj hG (.int k n) (.func fn h1 h2 h3 h4 h0) | exact bin_ne hinj hG (.int k n) (.func fn h1 h2 h3 h4 h0)
  | weird wm wf wc => cases op <;> first | exact sr_stuck | exact bin_eq hinj hG (.int k n) (.weird wm wf wc) | exact bin_ne hinj hG (.int k n) (.weird wm wf wc)
  | nilf => cases op <;> first | exact sr_stuck | exact bin_eq hinj hG (.int k n) .nilf | exact bin_ne hinj hG (.int k n) .nilf
  | iface x h => cases op <;> first | exact sr_stuck | exact bin_eq hinj hG (.int k n) (.iface x h) | exact bin_ne hinj hG (.int k n) (.iface x h)
  | nili => cases op <;> first | exact sr_stuck | exact bin_eq hinj hG (.int k n) .nili | exact bin_ne hinj hG (.int k n) .nili
  | agg h1 h2 => cases op <;> first | exact sr_stuck | exact bin_eq hinj hG (.int k n) (.agg h1 h2) | exact bin_ne hinj hG (.int k n) (.agg h1 h2)
  | tuple h1 h2 => cases op <;> first | exact sr_stuck | exact bin_eq hinj hG (.int k n) (.tuple h1 h2) | exact bin_ne hinj hG (.int k n) (.tuple h1 h2)
/-- The left operand is neither a number, a string nor a place. -/
def oddB : Value → Bool
  | .int .. | .float .. | .complex .. | .string _ | .pointer _ => false
  | .tuple vs => !vs.isEmpty
  | _ => true
theorem odd_bin {a b : Value} (h : oddB a = true) (h1 : op ≠ .eql) (h2 : op ≠ .neq) : Dead (binOp op t a b) := by
  cases a <;> first | exact absurd (show false = true from h) Bool.false_ne_true | (cases op <;> first | exact absurd rfl h1 | exact absurd rfl h2 | (cases b <;> exact .halt trivial))
theorem bin_odd (hinj : Inj σ D) (hG : Glob σ D T) {a a' b b' : Value} (ha : VR σ D a a') (hb : VR σ D b b') (h : oddB a = true) : SRel σ D (⟨T, F'⟩ : Program) (⟨T, F⟩ : Program) (VR σ D) (binOp op t a b) (binOp op t a' b') := by
  by_cases h1 : op = .eql
  · subst h1
    have e1 : binOp .eql t a b = (do Pure.pure (.bool (← Op.equal t a b)) : Sem Value) := by cases a <;> first | exact absurd (show false = true from h) Bool.false_ne_true | (cases b <;> rfl)
    have h' : oddB a' = true := by
      cases ha <;> first | rfl | exact absurd (show false = true from h) Bool.false_ne_true | (rename_i k1 _; simp [oddB] at h ⊢; intro e; subst e; simp_all)
    have e2 : binOp .eql t a' b' = (do Pure.pure (.bool (← Op.equal t a' b')) : Sem Value) := by cases a' <;> first | exact absurd (show false = true from h') Bool.false_ne_true | (cases b' <;> rfl)
    rw [e1, e2]
    exact bin_eq hinj hG ha hb
  by_cases h2 : op = .neq
  · subst h2
    have e1 : binOp .neq t a b = (do Pure.pure (.bool (!(← Op.equal t a b))) : Sem Value) := by cases a <;> first | exact absurd (show false = true from h) Bool.false_ne_true | (cases b <;> rfl)
    have h' : oddB a' = true := by
      cases ha <;> first | rfl | exact absurd (show false = true from h) Bool.false_ne_true | (rename_i k1 _; simp [oddB] at h ⊢; intro e; subst e; simp_all)
    have e2 : binOp .neq t a' b' = (do Pure.pure (.bool (!(← Op.equal t a' b'))) : Sem Value) := by cases a' <;> first | exact absurd (show false = true from h') Bool.false_ne_true | (cases b' <;> rfl)
    rw [e1, e2]
    exact bin_ne hinj hG ha hb
  · exact .dead (odd_bin h h1 h2)
end
end
end Go.Proofs.Ytgfgoflhmikalaa.par

namespace Go.Proofs.Ytgfgoflhmikalaa.par
open Go
set_option linter.unusedVariables false
set_option linter.unusedSimpArgs false
section
variable {σ : Nat → Nat} {D : Nat → Prop} {T : Tables} {F' F : Array Func}
section
variable {op : BinOp} {t : TypeId}
theorem bin_float (hinj : Inj σ D) (hG : Glob σ D T) {k : FloatKind} {n : Nat} {b b' : Value} (hb : VR σ D b b') (hu : b ≠ .tuple #[]) : SRel σ D (⟨T, F'⟩ : Program) (⟨T, F⟩ : Program) (VR σ D) (binOp op t (.float k n) b) (binOp op t (.float k n) b') := by
  cases hb with
  | undef v hv => exact absurd rfl hu
  | bool x => cases op <;> first | exact sr_stuck | exact sr_uns | exact bin_eq hinj hG (.float k n) (.bool x) | exact bin_ne hinj hG (.float k n) (.bool x)
  | float x y => cases op <;> first | exact sr_ite (fun _ => sr_stuck) (fun _ => sr_floatArith .add _ _ _) | exact sr_ite (fun _ => sr_stuck) (fun _ => sr_floatArith .sub _ _ _) | exact sr_ite (fun _ => sr_stuck) (fun _ => sr_floatArith .mul _ _ _) | exact sr_ite (fun _ => sr_stuck) (fun _ => sr_floatArith .quo _ _ _) | exact sr_ite (fun _ => sr_stuck) (fun _ => sr_floatCmp _ _ _ _)
  | complex x y z => cases op <;> first | exact sr_stuck | exact sr_uns | exact bin_eq hinj hG (.float k n) (.complex x y z) | exact bin_ne hinj hG (.float k n) (.complex x y z)
  | string x => cases op <;> first | exact sr_stuck | exact sr_uns | exact bin_eq hinj hG (.float k n) (.string x) | exact bin_ne hinj hG (.float k n) (.string x)
  | int x y => cases op <;> first | exact sr_stuck | exact sr_uns | exact bin_eq hinj hG (.float k n) (.int x y) | exact bin_ne hinj hG (.float k n) (.int x y)
  | nilp => cases op <;> first | exact sr_stuck | exact sr_uns | exact bin_eq hinj hG (.float k n) .nilp | exact bin_ne hinj hG (.float k n) .nilp
  | ptr h => cases op <;> first | exact sr_stuck | exact sr_uns | exact bin_eq hinj hG (.float k n) (.ptr h) | exact bin_ne hinj hG (.float k n) (.ptr h)
  | nils x y => cases op <;> first | exact sr_stuck | exact sr_uns | exact bin_eq hinj hG (.float k n) (.nils x y) | exact bin_ne hinj hG (.float k n) (.nils x y)
  | slice h x y => cases op <;> first | exact sr_stuck | exact sr_uns | exact bin_eq hinj hG (.float k n) (.slice h x y) | exact bin_ne hinj hG (.float k n) (.slice h x y)
  | nilm => cases op <;> first | exact sr_stuck | exact sr_uns | exact bin_eq hinj hG (.float k n) .nilm | exact bin_ne hinj hG (.float k n) .nilm
  | map h => cases op <;> first | exact sr_stuck | exact sr_uns | exact bin_eq hinj hG (.float k n) (.map h) | exact bin_ne hinj hG (.float k n) (.map h)
  | nilc => cases op <;> first | exact sr_stuck | exact sr_uns | exact bin_eq hinj hG (.float k n) .nilc | exact bin_ne hinj hG (.float k n) .nilc
  | func fn h1 h2 h3 h4 h0 => cases op <;> first | exact sr_stuck | exact sr_uns | exact bin_eq hinj hG (.float k n) (.func fn h1 h2 h3 h4 h0) | exact bin_ne hinj hG (.float k n) (.func fn h1 h2 h3 h4 h0)
  | weird wm wf wc => cases op <;> first | exact sr_stuck | exact sr_uns | exact bin_eq hinj hG (.float k n) (.weird wm wf wc) | exact bin_ne hinj hG (.float k n) (.weird wm wf wc)
  | nilf => cases op <;> first | exact sr_stuck | exact sr_uns | exact bin_eq hinj hG (.float k n) .nilf | exact bin_ne hinj hG (.float k n) .nilf
  | iface x h => cases op <;> first | exact sr_stuck | exact sr_uns | exact bin_eq hinj hG (.float k n) (.iface x h) | exact bin_ne hinj hG (.float k n) (.iface x h)
  | nili => cases op <;> first | exact sr_stuck | exact sr_uns | exact bin_eq hinj hG (.float k n) .nili | exact bin_ne hinj hG (.float k n) .nili
  | agg h1 h2 => cases op <;> first | exact sr_stuck | exact sr_uns | exact bin_eq hinj hG (.float k n) (.agg h1 h2) | exact bin_ne hinj hG (.float k n) (.agg h1 h2)
  | tuple h1 h2 => cases op <;> first | exact sr_stuck | exact sr_uns | exact bin_eq hinj hG (.float k n) (.tuple h1 h2) | exact bin_ne hinj hG (.float k n) (.tuple h1 h2)
theorem bin_complex (hinj : Inj σ D) (hG : Glob σ D T) {k : FloatKind} {n m : Nat} {b b' : Value} (hb : VR σ D b b') (hu : b ≠ .tuple #[]) : SRel σ D (⟨T, F'⟩ : Program) (⟨T, F⟩ : Program) (VR σ D) (binOp op t (.complex k n m) b) (binOp op t (.complex k n m) b') := by
  cases hb with
  | undef v hv => exact absurd rfl hu
  | bool x => cases op <;> first | exact sr_stuck | exact sr_uns | exact bin_eq hinj hG (.complex k n m) (.bool x) | exact bin_ne hinj hG (.complex k n m) (.bool x)
  | float x y => cases op <;> first | exact sr_stuck | exact sr_uns | exact bin_eq hinj hG (.complex k n m) (.float x y) | exact bin_ne hinj hG (.complex k n m) (.float x y)
  | complex x y z =>
    have e : ∀ k' x y, binOp op t (.complex k n m) (.complex k' x y) = if k ≠ k' then stuck "BinOp: operands of different kinds" else Op.complexOp op k n m x y := fun k' x y => by cases op <;> rfl
    rw [e]
    exact sr_ite (fun _ => sr_stuck) (fun _ => sr_complexOp _ _ _ _ _ _)
  | string x => cases op <;> first | exact sr_stuck | exact sr_uns | exact bin_eq hinj hG (.complex k n m) (.string x) | exact bin_ne hinj hG (.complex k n m) (.string x)
  | int x y => cases op <;> first | exact sr_stuck | exact sr_uns | exact bin_eq hinj hG (.complex k n m) (.int x y) | exact bin_ne hinj hG (.complex k n m) (.int x y)
  | nilp => cases op <;> first | exact sr_stuck | exact sr_uns | exact bin_eq hinj hG (.complex k n m) .nilp | exact bin_ne hinj hG (.complex k n m) .nilp
  | ptr h => cases op <;> first | exact sr_stuck | exact sr_uns | exact bin_eq hinj hG (.complex k n m) (.ptr h) | exact bin_ne hinj hG (.complex k n m) (.ptr h)
  | nils x y => cases op <;> first | exact sr_stuck | exact sr_uns | exact bin_eq hinj hG (.complex k n m) (.nils x y) | exact bin_ne hinj hG (.complex k n m) (.nils x y)
  | slice h x y => cases op <;> first | exact sr_stuck | exact sr_uns | exact bin_eq hinj hG (.complex k n m) (.slice h x y) | exact bin_ne hinj hG (.complex k n m) (.slice h x y)
  | nilm => cases op <;> first | exact sr_stuck | exact sr_uns | exact bin_eq hinj hG (.complex k n m) .nilm | exact bin_ne hinj hG (.complex k n m) .nilm
  | map h => cases op <;> first | exact sr_stuck | exact sr_uns | exact bin_eq hinj hG (.complex k n m) (.map h) | exact bin_ne hinj hG (.complex k n m) (.map h)
  | nilc => cases op <;> first | exact sr_stuck | exact sr_uns | exact bin_eq hinj hG (.complex k n m) .nilc | exact bin_ne hinj hG (.complex k n m) .nilc
  | func fn h1 h2 h3 h4 h0 => cases op <;> first | exact sr_stuck | exact sr_uns | exact bin_eq hinj hG (.complex k n m) (.func fn h1 h2 h3 h4 h0) | exact bin_ne hinj hG (.complex k n m) (.func fn h1 h2 h3 h4 h0)
  | weird wm wf wc => cases op <;> first | exact sr_stuck | exact sr_uns | exact bin_eq hinj hG (.complex k n m) (.weird wm wf wc) | exact bin_ne hinj hG (.complex k n m) (.weird wm wf wc)
  | nilf => cases op <;> first | exact sr_stuck | exact sr_uns | exact bin_eq hinj hG (.complex k n m) .nilf | exact bin_ne hinj hG (.complex k n m) .nilf
  | iface x h => cases op <;> first | exact sr_stuck | exact sr_uns | exact bin_eq hinj hG (.complex k n m) (.iface x h) | exact bin_ne hinj hG (.complex k n m) (.iface x h)
  | nili => cases op <;> first | exact sr_stuck | exact sr_uns | exact bin_eq hinj hG (.complex k n m) .nili | exact bin_ne hinj hG (.complex k n m) .nili
  | agg h1 h2 => cases op <;> first | exact sr_stuck | exact sr_uns | exact bin_eq hinj hG (.complex k n m) (.agg h1 h2) | exact bin_ne hinj hG (.complex k n m) (.agg h1 h2)
  | tuple h1 h2 => cases op <;> first | exact sr_stuck | exact sr_uns | exact bin_eq hinj hG (.complex k n m) (.tuple h1 h2) | exact bin_ne hinj hG (.complex k n m) (.tuple h1 h2)
theorem bin_string (hinj : Inj σ D) (hG : Glob σ D T) {s : ByteArray} {b b' : Value} (hb : VR σ D b b') (hu : b ≠ .tuple #[]) : SRel σ D (⟨T, F'⟩ : Program) (⟨T, F⟩ : Program) (VR σ D) (binOp op t (.string s) b) (binOp op t (.string s) b') := by
  cases hb with
  | undef v hv => exact absurd rfl hu
  | bool x => cases op <;> first | exact sr_stuck | exact sr_uns | exact bin_eq hinj hG (.string s) (.bool x) | exact bin_ne hinj hG (.string s) (.bool x)
  | float x y => cases op <;> first | exact sr_stuck | exact sr_uns | exact bin_eq hinj hG (.string s) (.float x y) | exact bin_ne hinj hG (.string s) (.float x y)
  | complex x y z => cases op <;> first | exact sr_stuck | exact sr_uns | exact bin_eq hinj hG (.string s) (.complex x y z) | exact bin_ne hinj hG (.string s) (.complex x y z)
  | string x =>
    have e : binOp op t (.string s) (.string x) = Op.stringOp op s x := by cases op <;> rfl
    rw [e]
    exact sr_stringOp op s x
  | int x y => cases op <;> first | exact sr_stuck | exact sr_uns | exact bin_eq hinj hG (.string s) (.int x y) | exact bin_ne hinj hG (.string s) (.int x y)
  | nilp => cases op <;> first | exact sr_stuck | exact sr_uns | exact bin_eq hinj hG (.string s) .nilp | exact bin_ne hinj hG (.string s) .nilp
  | ptr h => cases op <;> first | exact sr_stuck | exact sr_uns | exact bin_eq hinj hG (.string s) (.ptr h) | exact bin_ne hinj hG (.string s) (.ptr h)
  | nils x y => cases op <;> first | exact sr_stuck | exact sr_uns | exact bin_eq hinj hG (.string s) (.nils x y) | exact bin_ne hinj hG (.string s) (.nils x y)
  | slice h x y => cases op <;> first | exact sr_stuck | exact sr_uns | exact bin_eq hinj hG (.string s) (.slice h x y) | exact bin_ne hinj hG (.string s) (.slice h x y)
  | nilm => cases op <;> first | exact sr_stuck | exact sr_uns | exact bin_eq hinj hG (.string s) .nilm | exact bin_ne hinj hG (.string s) .nilm
  | map h => cases op <;> first | exact sr_stuck | exact sr_uns | exact bin_eq hinj hG (.string s) (.map h) | exact bin_ne hinj hG (.string s) (.map h)
  | nilc => cases op <;> first | exact sr_stuck | exact sr_uns | exact bin_eq hinj hG (.string s) .nilc | exact bin_ne hinj hG (.string s) .nilc
  | func fn h1 h2 h3 h4 h0 => cases op <;> first | exact sr_stuck | exact sr_uns | exact bin_eq hinj hG (.string s) (.func fn h1 h2 h3 h4 h0) | exact bin_ne hinj hG (.string s) (.func fn h1 h2 h3 h4 h0)
  | weird wm wf wc => cases op <;> first | exact sr_stuck | exact sr_uns | exact bin_eq hinj hG (.string s) (.weird wm wf wc) | exact bin_ne hinj hG (.string s) (.weird wm wf wc)
  | nilf => cases op <;> first | exact sr_stuck | exact sr_uns | exact bin_eq hinj hG (.string s) .nilf | exact bin_ne hinj hG (.string s) .nilf
  | iface x h => cases op <;> first | exact sr_stuck | exact sr_uns | exact bin_eq hinj hG (.string s) (.iface x h) | exact bin_ne hinj hG (.string s) (.iface x h)
  | nili => cases op <;> first | exact sr_stuck | exact sr_uns | exact bin_eq hinj hG (.string s) .nili | exact bin_ne hinj hG (.string s) .nili
  | agg h1 h2 => cases op <;> first | exact sr_stuck | exact sr_uns | exact bin_eq hinj hG (.string s) (.agg h1 h2) | exact bin_ne hinj hG (.string s) (.agg h1 h2)
  | tuple h1 h2 => cases op <;> first | exact sr_stuck | exact sr_uns | exact bin_eq hinj hG (.string s) (.tuple h1 h2) | exact bin_ne hinj hG (.string s) (.tuple h1 h2)
theorem bin_nilp (hinj : Inj σ D) (hG : Glob σ D T) {b b' : Value} (hb : VR σ D b b') (hu : b ≠ .tuple #[]) : SRel σ D (⟨T, F'⟩ : Program) (⟨T, F⟩ : Program) (VR σ D) (binOp op t (.pointer none) b) (binOp op t (.pointer none) b') := by
  cases hb with
  | undef v hv => exact absurd rfl hu
  | bool x => cases op <;> first | exact sr_stuck | exact sr_uns | exact bin_eq hinj hG .nilp (.bool x) | exact bin_ne hinj hG .nilp (.bool x)
  | float x y => cases op <;> first | exact sr_stuck | exact sr_uns | exact bin_eq hinj hG .nilp (.float x y) | exact bin_ne hinj hG .nilp (.float x y)
  | complex x y z => cases op <;> first | exact sr_stuck | exact sr_uns | exact bin_eq hinj hG .nilp (.complex x y z) | exact bin_ne hinj hG .nilp (.complex x y z)
  | string x => cases op <;> first | exact sr_stuck | exact sr_uns | exact bin_eq hinj hG .nilp (.string x) | exact bin_ne hinj hG .nilp (.string x)
  | int x y => cases op <;> first | exact sr_uns | exact bin_eq hinj hG .nilp (.int x y) | exact bin_ne hinj hG .nilp (.int x y) | exact sr_movedNumber t .nilp (.int x _) nilp_ne | exact sr_und t (fun d => sr_ite (fun _ => sr_movedPointer t .nilp (.int x y) nilp_ne) (fun _ => sr_movedNumber t .nilp (.int x y) nilp_ne))
  | nilp => cases op <;> first | exact sr_stuck | exact sr_uns | exact bin_eq hinj hG .nilp .nilp | exact bin_ne hinj hG .nilp .nilp
  | ptr h => cases op <;> first | exact sr_stuck | exact sr_uns | exact bin_eq hinj hG .nilp (.ptr h) | exact bin_ne hinj hG .nilp (.ptr h)
  | nils x y => cases op <;> first | exact sr_stuck | exact sr_uns | exact bin_eq hinj hG .nilp (.nils x y) | exact bin_ne hinj hG .nilp (.nils x y)
  | slice h x y => cases op <;> first | exact sr_stuck | exact sr_uns | exact bin_eq hinj hG .nilp (.slice h x y) | exact bin_ne hinj hG .nilp (.slice h x y)
  | nilm => cases op <;> first | exact sr_stuck | exact sr_uns | exact bin_eq hinj hG .nilp .nilm | exact bin_ne hinj hG .nilp .nilm
  | map h => cases op <;> first | exact sr_stuck | exact sr_uns | exact bin_eq hinj hG .nilp (.map h) | exact bin_ne hinj hG .nilp (.map h)
  | nilc => cases op <;> first | exact sr_stuck | exact sr_uns | exact bin_eq hinj hG .nilp .nilc | exact bin_ne hinj hG .nilp .nilc
  | func fn h1 h2 h3 h4 h0 => cases op <;> first | exact sr_stuck | exact sr_uns | exact bin_eq hinj hG .nilp (.func fn h1 h2 h3 h4 h0) | exact bin_ne hinj hG .nilp (.func fn h1 h2 h3 h4 h0)
  | weird wm wf wc => cases op <;> first | exact sr_stuck | exact sr_uns | exact bin_eq hinj hG .nilp (.weird wm wf wc) | exact bin_ne hinj hG .nilp (.weird wm wf wc)
  | nilf => cases op <;> first | exact sr_stuck | exact sr_uns | exact bin_eq hinj hG .nilp .nilf | exact bin_ne hinj hG .nilp .nilf
  | iface x h => cases op <;> first | exact sr_stuck | exact sr_uns | exact bin_eq hinj hG .nilp (.iface x h) | exact bin_ne hinj hG .nilp (.iface x h)
  | nili => cases op <;> first | exact sr_stuck | exact sr_uns | exact bin_eq hinj hG .nilp .nili | exact bin_ne hinj hG .nilp .nili
  | agg h1 h2 => cases op <;> first | exact sr_stuck | exact sr_uns | exact bin_eq hinj hG .nilp (.agg h1 h2) | exact bin_ne hinj hG .nilp (.agg h1 h2)
  | tuple h1 h2 => cases op <;> first | exact sr_stuck | exact sr_uns | exact bin_eq hinj hG .nilp (.tuple h1 h2) | exact bin_ne hinj hG .nilp (.tuple h1 h2)
theorem bin_ptr (hinj : Inj σ D) (hG : Glob σ D T) {p p' : Addr} (h : AR σ D p p') {b b' : Value} (hb : VR σ D b b') (hu : b ≠ .tuple #[]) : SRel σ D (⟨T, F'⟩ : Program) (⟨T, F⟩ : Program) (VR σ D) (binOp op t (.pointer (some p)) b) (binOp op t (.pointer (some p')) b') := by
  cases hb with
  | undef v hv => exact absurd rfl hu
  | bool x => cases op <;> first | exact sr_stuck | exact sr_uns | exact bin_eq hinj hG (.ptr h) (.bool x) | exact bin_ne hinj hG (.ptr h) (.bool x)
  | float x y => cases op <;> first | exact sr_stuck | exact sr_uns | exact bin_eq hinj hG (.ptr h) (.float x y) | exact bin_ne hinj hG (.ptr h) (.float x y)
  | complex x y z => cases op <;> first | exact sr_stuck | exact sr_uns | exact bin_eq hinj hG (.ptr h) (.complex x y z) | exact bin_ne hinj hG (.ptr h) (.complex x y z)
  | string x => cases op <;> first | exact sr_stuck | exact sr_uns | exact bin_eq hinj hG (.ptr h) (.string x) | exact bin_ne hinj hG (.ptr h) (.string x)
  | int x y => cases op <;> first | exact sr_uns | exact bin_eq hinj hG (.ptr h) (.int x y) | exact bin_ne hinj hG (.ptr h) (.int x y) | exact sr_movedNumber t (.ptr h) (.int x _) ptr_ne | exact (sr_behind h).bind (fun x y ⟨hx, _⟩ => sr_addrMod _ hx _) | exact sr_und t (fun d => sr_ite (fun _ => sr_movedPointer t (.ptr h) (.int x y) ptr_ne) (fun _ => sr_movedNumber t (.ptr h) (.int x y) ptr_ne))
  | nilp => cases op <;> first | exact sr_stuck | exact sr_uns | exact bin_eq hinj hG (.ptr h) .nilp | exact bin_ne hinj hG (.ptr h) .nilp
  | ptr k => cases op <;> first | exact sr_uns | exact bin_eq hinj hG (.ptr h) (.ptr k) | exact bin_ne hinj hG (.ptr h) (.ptr k) | exact (sr_behind h).bind (fun x y ⟨hx, _⟩ => (sr_behind k).bind (fun x2 y2 ⟨hx2, _⟩ => sr_addrSub hinj hG _ hx hx2)) | exact (sr_behind h).bind (fun x y ⟨hx, _⟩ => (sr_behind k).bind (fun x2 y2 ⟨hx2, _⟩ => sr_addrCmp hinj hG _ hx hx2))
  | nils x y => cases op <;> first | exact sr_stuck | exact sr_uns | exact bin_eq hinj hG (.ptr h) (.nils x y) | exact bin_ne hinj hG (.ptr h) (.nils x y)
  | slice hh x y => cases op <;> first | exact sr_stuck | exact sr_uns | exact bin_eq hinj hG (.ptr h) (.slice hh x y) | exact bin_ne hinj hG (.ptr h) (.slice hh x y)
  | nilm => cases op <;> first | exact sr_stuck | exact sr_uns | exact bin_eq hinj hG (.ptr h) .nilm | exact bin_ne hinj hG (.ptr h) .nilm
  | map hh => cases op <;> first | exact sr_stuck | exact sr_uns | exact bin_eq hinj hG (.ptr h) (.map hh) | exact bin_ne hinj hG (.ptr h) (.map hh)
  | nilc => cases op <;> first | exact sr_stuck | exact sr_uns | exact bin_eq hinj hG (.ptr h) .nilc | exact bin_ne hinj hG (.ptr h) .nilc
  | func fn h1 h2 h3 h4 h0 => cases op <;> first | exact sr_stuck | exact sr_uns | exact bin_eq hinj hG (.ptr h) (.func fn h1 h2 h3 h4 h0) | exact bin_ne hinj hG (.ptr h) (.func fn h1 h2 h3 h4 h0)
  | weird wm wf wc => cases op <;> first | exact sr_stuck | exact sr_uns | exact bin_eq hinj hG (.ptr h) (.weird wm wf wc) | exact bin_ne hinj hG (.ptr h) (.weird wm wf wc)
  | nilf => cases op <;> first | exact sr_stuck | exact sr_uns | exact bin_eq hinj hG (.ptr h) .nilf | exact bin_ne hinj hG (.ptr h) .nilf
  | iface x hh => cases op <;> first | exact sr_stuck | exact sr_uns | exact bin_eq hinj hG (.ptr h) (.iface x hh) | exact bin_ne hinj hG (.ptr h) (.iface x hh)
  | nili => cases op <;> first | exact sr_stuck | exact sr_uns | exact bin_eq hinj hG (.ptr h) .nili | exact bin_ne hinj hG (.ptr h) .nili
  | agg h1 h2 => cases op <;> first | exact sr_stuck | exact sr_uns | exact bin_eq hinj hG (.ptr h) (.agg h1 h2) | exact bin_ne hinj hG (.ptr h) (.agg h1 h2)
  | tuple h1 h2 => cases op <;> first | exact sr_stuck | exact sr_uns | exact bin_eq hinj hG (.ptr h) (.tuple h1 h2) | exact bin_ne hinj hG (.ptr h) (.tuple h1 h2)
end
theorem sr_binOp (hinj : Inj σ D) (hG : Glob σ D T) (op : BinOp) (t : TypeId) {a a' b b' : Value} (ha : VR σ D a a') (hb : VR σ D b b') : SRel σ D (⟨T, F'⟩ : Program) (⟨T, F⟩ : Program) (VR σ D) (binOp op t a b) (binOp op t a' b') := by
  by_cases hu : b = .tuple #[]
  · subst hu
    exact .dead (dead_binR op t a)
  cases ha with
  | undef v hv => exact .dead (dead_binL op t b)
  | int k n => exact bin_int hinj hG hb hu
  | float k n => exact bin_float hinj hG hb hu
  | complex k n m => exact bin_complex hinj hG hb hu
  | string s => exact bin_string hinj hG hb hu
  | nilp => exact bin_nilp hinj hG hb hu
  | ptr h => exact bin_ptr hinj hG h hb hu
  | bool x => exact bin_odd hinj hG (.bool x) hb rfl
  | nils x y => exact bin_odd hinj hG (.nils x y) hb rfl
  | slice h x y => exact bin_odd hinj hG (.slice h x y) hb rfl
  | nilm => exact bin_odd hinj hG .nilm hb rfl
  | map h => exact bin_odd hinj hG (.map h) hb rfl
  | nilc => exact bin_odd hinj hG .nilc hb rfl
  | func fn h1 h2 h3 h4 h0 => exact bin_odd hinj hG (.func fn h1 h2 h3 h4 h0) hb rfl
  | weird wm wf wc => exact bin_odd hinj hG (.weird wm wf wc) hb rfl
  | nilf => exact bin_odd hinj hG .nilf hb rfl
  | iface x h => exact bin_odd hinj hG (.iface x h) hb rfl
  | nili => exact bin_odd hinj hG .nili hb rfl
  | agg h1 h2 => exact bin_odd hinj hG (.agg h1 h2) hb rfl
  | @tuple c c' h1 h2 =>
    by_cases hc : c = #[]
    · subst hc
      exact .dead (dead_binL op t b)
    · exact bin_odd hinj hG (.tuple h1 h2) hb (by simpa [oddB] using hc)
end
end Go.Proofs.Ytgfgoflhmikalaa.par

namespace Go.Proofs.Ytgfgoflhmikalaa.par
open Go
set_option linter.unusedVariables false
set_option linter.unusedSimpArgs false
def undT (T : Tables) (t : TypeId) : Option TypeDesc := Program.underlying (⟨T, #[]⟩ : Program) t
/-- Conversions that the relation serves. -/
def okConv (T : Tables) (src dst : TypeId) : Bool :=
  match undT T src, undT T dst with
  | some (.int _), some (.int _) => true
  | some .string, some .string => true
  | some .string, some (.slice e) => match undT T e with | some (.int .u8) => true | _ => false
  | some (.slice e), some .string => match undT T e with | some (.int .u8) => true | _ => false
  | some (.pointer _), some .unsafePointer => true
  | some .unsafePointer, some (.pointer _) => true
  | _, _ => false
section
variable {σ : Nat → Nat} {D : Nat → Prop} {T : Tables} {F' F : Array Func}
theorem sr_undE {α β : Type} {R : α → β → Prop} {t : TypeId} {d : TypeDesc} (hd : undT T t = some d) {f : TypeDesc → Sem α} {f' : TypeDesc → Sem β} (h : SRel σ D (⟨T, F'⟩ : Program) (⟨T, F⟩ : Program) R (f d) (f' d)) : SRel σ D (⟨T, F'⟩ : Program) (⟨T, F⟩ : Program) R (underlying t >>= f) (underlying t >>= f') := by
  have h0 : SRel σ D (⟨T, F'⟩ : Program) (⟨T, F⟩ : Program) (fun a b => a = d ∧ b = d) (underlying t) (underlying t) := by
    unfold underlying
    refine sr_program ?_
    have e1 : Program.underlying (⟨T, F'⟩ : Program) t = some d := hd
    have e2 : Program.underlying (⟨T, F⟩ : Program) t = some d := hd
    rw [e1, e2]
    exact sr_pure ⟨rfl, rfl⟩
  exact h0.bind (fun a b ⟨e1, e2⟩ => by subst e1 e2; exact h)
theorem sr_f2i (s : FloatKind) (b : Nat) (k : IntKind) : SRel σ D (⟨T, F'⟩ : Program) (⟨T, F⟩ : Program) (VR σ D) (Conv.floatToInt s b k) (Conv.floatToInt s b k) := by
  unfold Conv.floatToInt
  have any : SRel σ D (⟨T, F'⟩ : Program) (⟨T, F⟩ : Program) (VR σ D) (do Pure.pure (.int k (k.wrap (← choose (.floatToInt s b k)))) : Sem Value) (do Pure.pure (.int k (k.wrap (← choose (.floatToInt s b k)))) : Sem Value) := sr_chooseb (fun _ => sr_pure (.int _ _))
  dsimp only
  split
  · exact sr_ite (fun _ => sr_pure (.int _ _)) (fun _ => any)
  · exact any
theorem sr_convert {src dst : TypeId} (ho : okConv T src dst = true) {v v' : Value} (hv : VR σ D v v') : SRel σ D (⟨T, F'⟩ : Program) (⟨T, F⟩ : Program) (VR σ D) (convert src dst v) (convert src dst v') := by
  unfold okConv at ho
  unfold convert
  split at ho
  · rename_i e1 e2
    refine sr_undE e1 (sr_undE e2 ?_)
    cases hv <;> first | exact sr_uns | exact sr_pure (.int _ _) | exact sr_f2i _ _ _
  · rename_i e1 e2
    refine sr_undE e1 (sr_undE e2 ?_)
    cases hv <;> first | exact sr_uns | exact sr_pure (.string _)
  · rename_i e e1 e2
    split at ho
    · rename_i e3
      refine sr_undE e1 (sr_undE e2 ?_)
      cases hv <;> first | exact sr_uns | exact sr_undE e3 (sr_s2b _ _)
    · cases ho
  · rename_i e e1 e2
    split at ho
    · rename_i e3
      refine sr_undE e1 (sr_undE e2 ?_)
      cases hv with
      | int k n => exact sr_pure (.string _)
      | string s => exact sr_pure (.string _)
      | nils l c => exact sr_undE e3 (sr_b2s (.nils l c))
      | slice h l c => exact sr_undE e3 (sr_b2s (.slice h l c))
      | undef v hv =>
        refine .dead (dead_und (fun u => ?_))
        cases u <;> first | exact .halt trivial | (rename_i k; cases k <;> exact .halt trivial)
      | _ => exact sr_undE e3 sr_stuck
    · cases ho
  · rename_i e1 e2
    refine sr_undE e1 (sr_undE e2 ?_)
    exact sr_unsafePtr src dst hv
  · rename_i e1 e2
    refine sr_undE e1 (sr_undE e2 ?_)
    exact sr_unsafePtr src dst hv
  · cases ho
theorem sr_loadBytes : ∀ (n : Nat) {a a' : Addr} (h : AR σ D a a') (s : ByteArray), SRel σ D (⟨T, F'⟩ : Program) (⟨T, F⟩ : Program) Eq (loadBytes a s n) (loadBytes a' s n)
  | 0, a, a', h, s => sr_pure rfl
  | n + 1, a, a', h, s => by
    unfold loadBytes
    refine (sr_load .plain h).bind (fun v v' hv => ?_)
    cases hv with
    | int k m => cases k <;> first | exact sr_loadBytes n (h.add 1) _ | exact sr_stuck
    | _ => exact sr_stuck
/-- Two rows of two. -/
theorem VsR.two {args args' : Array Value} (h : VsR σ D args args') (hs : args.size = 2) : ∃ a b a' b', args = #[a, b] ∧ args' = #[a', b'] ∧ VR σ D a a' ∧ VR σ D b b' := by
  obtain ⟨l⟩ := args
  obtain ⟨l'⟩ := args'
  obtain ⟨h1, h2⟩ := h
  simp only [List.size_toArray] at hs h1
  rcases l with _ | ⟨a, _ | ⟨b, _ | ⟨c, l⟩⟩⟩ <;> simp at hs
  rcases l' with _ | ⟨a', _ | ⟨b', _ | ⟨c', l'⟩⟩⟩ <;> simp at h1
  exact ⟨a, b, a', b', rfl, rfl, h2 0 a a' rfl rfl, h2 1 b b' rfl rfl⟩
theorem VsR.one {args args' : Array Value} (h : VsR σ D args args') (hs : args.size = 1) : ∃ a a', args = #[a] ∧ args' = #[a'] ∧ VR σ D a a' := by
  obtain ⟨l⟩ := args
  obtain ⟨l'⟩ := args'
  obtain ⟨h1, h2⟩ := h
  simp only [List.size_toArray] at hs h1
  rcases l with _ | ⟨a, _ | ⟨b, l⟩⟩ <;> simp at hs
  rcases l' with _ | ⟨a', _ | ⟨b', l'⟩⟩ <;> simp at h1
  exact ⟨a, a', rfl, rfl, h2 0 a a' rfl rfl⟩
theorem VsR.three {args args' : Array Value} (h : VsR σ D args args') (hs : args.size = 3) : ∃ a b c a' b' c', args = #[a, b, c] ∧ args' = #[a', b', c'] ∧ VR σ D a a' ∧ VR σ D b b' ∧ VR σ D c c' := by
  obtain ⟨l⟩ := args
  obtain ⟨l'⟩ := args'
  obtain ⟨h1, h2⟩ := h
  simp only [List.size_toArray] at hs h1
  rcases l with _ | ⟨a, _ | ⟨b, _ | ⟨c, _ | ⟨d, l⟩⟩⟩⟩ <;> simp at hs
  rcases l' with _ | ⟨a', _ | ⟨b', _ | ⟨c', _ | ⟨d', l'⟩⟩⟩⟩ <;> simp at h1
  exact ⟨a, b, c, a', b', c', rfl, rfl, h2 0 a a' rfl rfl, h2 1 b b' rfl rfl, h2 2 c c' rfl rfl⟩
theorem sr_unsafeString (at' : Array TypeId) (t : TypeId) {args args' : Array Value} (h : VsR σ D args args') : SRel σ D (⟨T, F'⟩ : Program) (⟨T, F⟩ : Program) (VR σ D) (Builtin.unsafeString_ at' t args) (Builtin.unsafeString_ at' t args') := by
  unfold Builtin.unsafeString_
  by_cases hs : args.size = 2
  · obtain ⟨a, b, a', b', rfl, rfl, ha, hb⟩ := h.two hs
    cases ha with
    | nilp =>
      dsimp only
      refine (sr_asInt hb).bind (fun n n' e => ?_)
      subst e
      rcases at'[0]? with _ | pt
      · exact sr_stuck
      dsimp only
      refine sr_ite (fun _ => sr_panicEb (.error _) rfl) (fun _ => ?_)
      refine sr_ite (fun _ => sr_unsb) (fun _ => ?_)
      exact sr_ite (fun _ => sr_pure (.string _)) (fun _ => sr_panicE (.error _) rfl)
    | ptr hp =>
      dsimp only
      refine (sr_asInt hb).bind (fun n n' e => ?_)
      subst e
      rcases at'[0]? with _ | pt
      · exact sr_stuck
      dsimp only
      refine sr_ite (fun _ => sr_panicEb (.error _) rfl) (fun _ => ?_)
      refine sr_ite (fun _ => sr_unsb) (fun _ => ?_)
      refine sr_ite (fun _ => sr_pure (.string _)) (fun _ => ?_)
      have h0 : SRel σ D (⟨T, F'⟩ : Program) (⟨T, F⟩ : Program) Eq (elemOf pt) (elemOf pt) := sr_und pt (fun d => by cases d <;> first | exact sr_pure rfl | exact sr_stuck)
      refine h0.bind (fun e e' he => ?_)
      subst he
      refine (sr_variablesAt hp _ _).bind (fun x y e => ?_)
      subst e
      refine sr_ite (fun _ => ?_) (fun _ => sr_uns)
      refine (sr_loadBytes _ hp _).bind (fun s s' e => ?_)
      subst e
      exact .freeze hp (.pure (.string _))
    | _ => exact sr_stuck
  · obtain ⟨l⟩ := args
    rcases l with _ | ⟨a, _ | ⟨b, _ | ⟨c, l⟩⟩⟩ <;> first | exact sr_stuck | exact absurd rfl hs
theorem sr_unsafeSliceData (at' : Array TypeId) (t : TypeId) {args args' : Array Value} (h : VsR σ D args args') : SRel σ D (⟨T, F'⟩ : Program) (⟨T, F⟩ : Program) (VR σ D) (Builtin.unsafeSliceData_ at' t args) (Builtin.unsafeSliceData_ at' t args') := by
  unfold Builtin.unsafeSliceData_
  by_cases hs : args.size = 1
  · obtain ⟨a, a', rfl, rfl, ha⟩ := h.one hs
    cases ha with
    | nils l c => exact sr_pure .nilp
    | @slice p p' hp l c =>
      refine sr_ite (fun _ => sr_pure (.ptr hp)) (fun _ => ?_)
      have e1 : p'.block = σ p.block := by rw [hp.2]
      rw [e1]
      refine (sr_viewAt hp.1).bind (fun x y hxy => ?_)
      cases hxy with
      | some _ _ => exact sr_pure (.ptr hp)
      | none =>
        have h0 : SRel σ D (⟨T, F'⟩ : Program) (⟨T, F⟩ : Program) Eq (elemOf t) (elemOf t) := sr_und t (fun d => by cases d <;> first | exact sr_pure rfl | exact sr_stuck)
        refine h0.bind (fun e e' he => ?_)
        subst he
        exact sr_newView hp _
    | _ => exact sr_stuck
  · obtain ⟨l⟩ := args
    rcases l with _ | ⟨a, _ | ⟨b, l⟩⟩ <;> first | exact sr_stuck | exact absurd rfl hs
theorem sr_min (at' : Array TypeId) (t : TypeId) {args args' : Array Value} (h : VsR σ D args args') : SRel σ D (⟨T, F'⟩ : Program) (⟨T, F⟩ : Program) (VR σ D) (Builtin.min_ at' t args) (Builtin.min_ at' t args') := by
  unfold Builtin.min_
  have key : ∀ (l l' : List Value) (x x' : Value), l.length = l'.length → (∀ (i : Nat) (a b : Value), l[i]? = some a → l'[i]? = some b → VR σ D a b) → VR σ D x x' → SRel σ D (⟨T, F'⟩ : Program) (⟨T, F⟩ : Program) (VR σ D) (l.foldlM Builtin.min2 x) (l'.foldlM Builtin.min2 x') := by
    intro l
    induction l with
    | nil =>
      intro l' x x' hl _ hx
      cases l' with
      | nil => exact sr_pure hx
      | cons _ _ => simp at hl
    | cons y l ih =>
      intro l' x x' hl hv hx
      cases l' with
      | nil => simp at hl
      | cons y' l' =>
        simp only [List.foldlM_cons]
        exact (sr_min2 hx (hv 0 y y' rfl rfl)).bind (fun z z' hz => ih l' z z' (by simpa using hl) (fun i a b ha hb => hv (i + 1) a b (by simpa using ha) (by simpa using hb)) hz)
  obtain ⟨l⟩ := args
  obtain ⟨l'⟩ := args'
  obtain ⟨h1, h2⟩ := h
  simp only [List.size_toArray] at h1
  cases l with
  | nil => exact sr_stuck
  | cons x l =>
    cases l' with
    | nil => simp at h1
    | cons x' l' => exact key l l' x x' (by simpa using h1) (fun i a b ha hb => h2 (i + 1) a b (by simpa using ha) (by simpa using hb)) (h2 0 x x' rfl rfl)
theorem sr_cap (at' : Array TypeId) (t : TypeId) {args args' : Array Value} (h : VsR σ D args args') : SRel σ D (⟨T, F'⟩ : Program) (⟨T, F⟩ : Program) (VR σ D) (Builtin.cap_ at' t args) (Builtin.cap_ at' t args') := by
  unfold Builtin.cap_
  rcases h0 : at'[0]? with _ | t0
  · exact sr_stuck
  rcases h1 : args[0]? with _ | s
  · exact sr_stuck
  obtain ⟨s', hs', hss⟩ := h.get h1
  rw [hs']
  dsimp only
  refine sr_und t0 (fun d => ?_)
  cases d with
  | slice e => cases hss <;> first | exact sr_pure (.int _ _) | exact sr_stuck
  | array n e => exact sr_pure (.int _ _)
  | pointer arr =>
    refine sr_und arr (fun d => ?_)
    cases d <;> first | exact sr_pure (.int _ _) | exact sr_stuck
  | chan k e =>
    cases hss with
    | nilc => exact sr_pure (.int _ _)
    | _ => exact sr_stuck
  | _ => exact sr_stuck
end
end Go.Proofs.Ytgfgoflhmikalaa.par
