/- Part 5 of what the proofs stand on: lemmas on worlds, on goroutines, contracts of functions. No conditions. -/
import Derived.Test.YtgfgoflhmikalaaM04
namespace Go.Proofs.Ytgfgoflhmikalaa.par
open Go
set_option linter.unusedVariables false
set_option linter.unusedSimpArgs false
section
variable {σ : Nat → Nat} {D : Nat → Prop} {T : Tables} {F' F : Array Func}
inductive NbR (σ : Nat → Nat) (D : Nat → Prop) : Option (Addr × Bool) → Option (Addr × Bool) → Prop
  | none : NbR σ D none none
  | some {a a' : Addr} (h : AR σ D a a') (l : Bool) : NbR σ D (some (a, l)) (some (a', l))
theorem sr_numberAt {r : Nat} (h : D r) : SRel σ D (⟨T, F'⟩ : Program) (⟨T, F⟩ : Program) (NbR σ D) (numberAt r) (numberAt (σ r)) := by
  unfold numberAt
  refine (sr_shape h).bind (fun a b e => ?_)
  subst e
  split
  · exact sr_pure .none
  · refine .getObj h (fun o o' ho => ?_)
    cases ho with
    | number ha l => exact sr_pure (.some ha l)
    | _ => exact sr_pure .none
theorem sr_behind {a a' : Addr} (h : AR σ D a a') : SRel σ D (⟨T, F'⟩ : Program) (⟨T, F⟩ : Program) (fun x y => AR σ D x.1 y.1 ∧ x.2 = y.2) (behindNumber a) (behindNumber a') := by
  unfold behindNumber
  have e1 : a'.block = σ a.block := by rw [h.2]
  rw [e1]
  refine (sr_numberAt h.1).bind (fun x y hxy => ?_)
  cases hxy with
  | none => exact sr_pure ⟨h, rfl⟩
  | some ha l => exact sr_pure ⟨ha, rfl⟩
theorem addr_beq (hinj : ∀ r r', D r → D r' → σ r = σ r' → r = r') {a a' b b' : Addr} (ha : AR σ D a a') (hb : AR σ D b b') : (a' == b') = (a == b) := by
  rw [Bool.eq_iff_iff]
  simp only [beq_iff_eq]
  constructor
  · intro h
    have h1 : a'.block = b'.block := by rw [h]
    have h2 : a'.off = b'.off := by rw [h]
    have h3 : a'.spot = b'.spot := by rw [h]
    rw [ha.2, hb.2] at h1 h2 h3
    have h4 := hinj _ _ ha.1 hb.1 h1
    cases a; cases b
    dsimp only at h2 h3 h4
    subst h2 h3 h4
    rfl
  · intro h
    rw [ha.2, hb.2, h]
theorem block_beq (hinj : ∀ r r', D r → D r' → σ r = σ r' → r = r') {a a' b b' : Addr} (ha : AR σ D a a') (hb : AR σ D b b') : (a'.block == b'.block) = (a.block == b.block) := by
  rw [Bool.eq_iff_iff]
  simp only [beq_iff_eq]
  constructor
  · intro h
    rw [ha.2, hb.2] at h
    exact hinj _ _ ha.1 hb.1 h
  · intro h
    rw [ha.2, hb.2]
    exact congrArg σ h
theorem sr_samePtr (hinj : ∀ r r', D r → D r' → σ r = σ r' → r = r') {p p' q q' : Option Addr} (hp : OptR (AR σ D) p p') (hq : OptR (AR σ D) q q') : SRel σ D (⟨T, F'⟩ : Program) (⟨T, F⟩ : Program) Eq (samePointer p q) (samePointer p' q') := by
  cases hp <;> cases hq <;> first | exact sr_pure rfl | exact sr_sameAddr hinj (by assumption) (by assumption)
/-- What the comparison asks of the tables is the same of both programs. -/
structure TE (T : Tables) (F' F : Array Func) : Prop where
  stood : ∀ t, Program.stoodInHeld (⟨T, F'⟩ : Program) t = Program.stoodInHeld (⟨T, F⟩ : Program) t
  packed : ∀ d t, Program.holdsPacked (⟨T, F'⟩ : Program) d t = Program.holdsPacked (⟨T, F⟩ : Program) d t
/-- One round of the comparison, its type laid open. -/
def eqK (d : Nat) (t : TypeId) (x y : Value) : { K : TypeDesc → Sem Bool // Op.equalIn (d + 1) t x y = underlying t >>= K } := ⟨_, rfl⟩
def EqD (σ : Nat → Nat) (D : Nat → Prop) (T : Tables) (F' F : Array Func) (d : Nat) : Prop := ∀ (t : TypeId) {a a' b b' : Value}, VR σ D a a' → VR σ D b b' → SRel σ D (⟨T, F'⟩ : Program) (⟨T, F⟩ : Program) Eq (Op.equalIn d t a b) (Op.equalIn d t a' b')
section
variable {d : Nat} {t : TypeId} {a a' b b' : Value}
theorem eq_bool (ha : VR σ D a a') (hb : VR σ D b b') : SRel σ D (⟨T, F'⟩ : Program) (⟨T, F⟩ : Program) Eq ((eqK d t a b).1 .bool) ((eqK d t a' b').1 .bool) := by
  cases ha with
  | bool x => cases hb <;> first | exact sr_pure rfl | exact sr_stuck
  | _ => exact sr_stuck
theorem eq_float (k : FloatKind) (ha : VR σ D a a') (hb : VR σ D b b') : SRel σ D (⟨T, F'⟩ : Program) (⟨T, F⟩ : Program) Eq ((eqK d t a b).1 (.float k)) ((eqK d t a' b').1 (.float k)) := by
  cases ha with
  | float x => cases hb <;> first | exact sr_stuck | exact sr_ite (fun _ => sr_pure rfl) (fun _ => sr_stuck)
  | _ => exact sr_stuck
theorem eq_complex (k : FloatKind) (ha : VR σ D a a') (hb : VR σ D b b') : SRel σ D (⟨T, F'⟩ : Program) (⟨T, F⟩ : Program) Eq ((eqK d t a b).1 (.complex k)) ((eqK d t a' b').1 (.complex k)) := by
  cases ha with
  | complex x => cases hb <;> first | exact sr_stuck | exact sr_ite (fun _ => sr_pure rfl) (fun _ => sr_stuck)
  | _ => exact sr_stuck
theorem eq_string (ha : VR σ D a a') (hb : VR σ D b b') : SRel σ D (⟨T, F'⟩ : Program) (⟨T, F⟩ : Program) Eq ((eqK d t a b).1 .string) ((eqK d t a' b').1 .string) := by
  cases ha with
  | string x => cases hb <;> first | exact sr_pure rfl | exact sr_stuck
  | _ => exact sr_stuck
theorem eq_slice (e : TypeId) (ha : VR σ D a a') (hb : VR σ D b b') : SRel σ D (⟨T, F'⟩ : Program) (⟨T, F⟩ : Program) Eq ((eqK d t a b).1 (.slice e)) ((eqK d t a' b').1 (.slice e)) := by
  cases ha with
  | nils l c => cases hb <;> first | exact sr_pure rfl | exact sr_stuck
  | slice h l c => cases hb <;> first | exact sr_pure rfl | exact sr_stuck
  | _ => exact sr_stuck
theorem eq_map (k e : TypeId) (ha : VR σ D a a') (hb : VR σ D b b') : SRel σ D (⟨T, F'⟩ : Program) (⟨T, F⟩ : Program) Eq ((eqK d t a b).1 (.map k e)) ((eqK d t a' b').1 (.map k e)) := by
  cases ha with
  | nilm => cases hb <;> first | exact sr_pure rfl | exact sr_stuck
  | map h => cases hb <;> first | exact sr_pure rfl | exact sr_stuck
  | _ => exact sr_stuck
theorem eq_func (p r : Array TypeId) (v : Bool) (ha : VR σ D a a') (hb : VR σ D b b') : SRel σ D (⟨T, F'⟩ : Program) (⟨T, F⟩ : Program) Eq ((eqK d t a b).1 (.func p r v)) ((eqK d t a' b').1 (.func p r v)) := by
  cases ha with
  | nilf => cases hb <;> first | exact sr_pure rfl | exact sr_stuck
  | func fn h1 h2 h3 h4 h0 => cases hb <;> first | exact sr_pure rfl | exact sr_stuck
  | weird m f c => cases hb <;> first | exact sr_pure rfl | exact sr_stuck
  | _ => exact sr_stuck
theorem eq_chan (x : ChanDir) (e : TypeId) (ha : VR σ D a a') (hb : VR σ D b b') : SRel σ D (⟨T, F'⟩ : Program) (⟨T, F⟩ : Program) Eq ((eqK d t a b).1 (.chan x e)) ((eqK d t a' b').1 (.chan x e)) := by
  cases ha with
  | nilc => cases hb <;> first | exact sr_pure rfl | exact sr_stuck
  | _ => exact sr_stuck
theorem eq_unsafe (hinj : ∀ r r', D r → D r' → σ r = σ r' → r = r') (ha : VR σ D a a') (hb : VR σ D b b') : SRel σ D (⟨T, F'⟩ : Program) (⟨T, F⟩ : Program) Eq ((eqK d t a b).1 .unsafePointer) ((eqK d t a' b').1 .unsafePointer) := by
  cases ha with
  | nilp => cases hb <;> first | exact sr_pure rfl | exact sr_stuck
  | ptr h1 => cases hb <;> first | exact sr_pure rfl | exact sr_stuck | exact sr_samePtr hinj (.some h1) (.some (by assumption))
  | _ => exact sr_stuck
theorem eq_pointer (hinj : ∀ r r', D r → D r' → σ r = σ r' → r = r') (e : TypeId) (ha : VR σ D a a') (hb : VR σ D b b') : SRel σ D (⟨T, F'⟩ : Program) (⟨T, F⟩ : Program) Eq ((eqK d t a b).1 (.pointer e)) ((eqK d t a' b').1 (.pointer e)) := by
  cases ha with
  | nilp => cases hb <;> first | exact sr_pure rfl | exact sr_stuck
  | ptr h1 =>
    cases hb with
    | nilp => exact sr_pure rfl
    | ptr h2 =>
      exact sr_sizeOf _ (fun n => sr_ite (fun _ => sr_sameAddr hinj h1 h2) (fun _ => by
        rw [addr_beq hinj h1 h2]
        exact sr_ite (fun _ => sr_pure rfl) (fun _ => (sr_choose _).bind (fun x y e => by subst e; exact sr_pure rfl))))
    | _ => exact sr_stuck
  | _ => exact sr_stuck
theorem eq_int (hinj : ∀ r r', D r → D r' → σ r = σ r' → r = r') (hG : ∀ r, D r → (σ r < T.globals.size ↔ r < T.globals.size)) (k : IntKind) (ha : VR σ D a a') (hb : VR σ D b b') : SRel σ D (⟨T, F'⟩ : Program) (⟨T, F⟩ : Program) Eq ((eqK d t a b).1 (.int k)) ((eqK d t a' b').1 (.int k)) := by
  cases ha with
  | int k1 n =>
    cases hb with
    | int k2 m => exact sr_ite (fun _ => sr_pure rfl) (fun _ => sr_stuck)
    | nilp => exact sr_uns
    | ptr h2 =>
      by_cases hn : n = 0
      · subst hn; exact sr_pure rfl
      · have e1 : ∀ p, (eqK d t (.int k1 n) (.pointer (some p))).1 (.int k) = unsupported .addressObserved := fun p => by
          dsimp only [eqK]
          split <;> first | rfl | (exfalso; simp_all; done) | (rename_i h _ _ _; exact absurd (by injections) hn)
        rw [e1]
        exact sr_uns
    | _ => exact sr_stuck
  | nilp => cases hb <;> exact sr_uns
  | ptr h1 =>
    cases hb with
    | int k2 n =>
      by_cases hn : n = 0
      · subst hn; exact sr_pure rfl
      · have e1 : ∀ p, (eqK d t (.pointer (some p)) (.int k2 n)).1 (.int k) = unsupported .addressObserved := fun p => by
          dsimp only [eqK]
          split <;> first | rfl | (exfalso; simp_all; done)
        rw [e1]
        exact sr_uns
    | ptr h2 =>
      refine (sr_behind h1).bind (fun x y ⟨hx, _⟩ => ?_)
      refine (sr_behind h2).bind (fun x2 y2 ⟨hx2, _⟩ => ?_)
      dsimp only
      refine sr_program ?_
      dsimp only
      rw [block_beq hinj hx hx2, addr_beq hinj hx hx2]
      have eg : decide (y.1.block < T.globals.size) = decide (x.1.block < T.globals.size) := by
        have h3 := hG _ hx.1
        rw [hx.2]
        simp only [decide_eq_decide]
        exact h3
      rw [eg]
      refine sr_ite (fun _ => ?_) (fun _ => ?_)
      · refine (sr_byteOf hx).bind (fun p q e => ?_)
        subst e
        refine (sr_byteOf hx2).bind (fun p2 q e => ?_)
        subst e
        exact sr_pure rfl
      · refine sr_info _ (fun i _ => ?_)
        split
        · exact sr_ite (fun _ => sr_pure rfl) (fun _ => sr_uns)
        · exact sr_uns
    | _ => exact sr_uns
  | _ => first | exact sr_stuck | (cases hb <;> first | exact sr_stuck | exact sr_uns)
theorem eq_iface (ih : EqD σ D T F' F d) (te : TE T F' F) (ms : Array (String × TypeId)) (ha : VR σ D a a') (hb : VR σ D b b') : SRel σ D (⟨T, F'⟩ : Program) (⟨T, F⟩ : Program) Eq ((eqK d t a b).1 (.interface ms)) ((eqK d t a' b').1 (.interface ms)) := by
  cases ha with
  | nili => cases hb <;> first | exact sr_pure rfl | exact sr_stuck
  | @iface tx vx vx' hx =>
    cases hb with
    | nili => exact sr_pure rfl
    | @iface ty vy vy' hy =>
      refine sr_ite (fun _ => sr_pure rfl) (fun _ => ?_)
      refine sr_info _ (fun i _ => ?_)
      dsimp only
      refine sr_ite (fun _ => ?_) (fun _ => ih tx hx hy)
      refine sr_program ?_
      refine sr_program ?_
      have e0 : (⟨T, F'⟩ : Program).depth = (⟨T, F⟩ : Program).depth := rfl
      rw [te.packed, e0]
      refine sr_ite (fun _ => sr_unsb) (fun _ => ?_)
      have h0 : SRel σ D (⟨T, F'⟩ : Program) (⟨T, F⟩ : Program) Eq (typeStr tx) (typeStr tx) := by
        unfold typeStr
        refine sr_info _ (fun i _ => ?_)
        dsimp only
        exact sr_ite (fun _ => sr_uns) (fun _ => sr_pure rfl)
      refine h0.bind (fun x y e => ?_)
      subst e
      exact sr_panicE (.error _) rfl
    | _ => exact sr_stuck
  | _ => exact sr_stuck
theorem eq_struct (ih : EqD σ D T F' F d) (te : TE T F' F) (fs : Array Field) (ha : VR σ D a a') (hb : VR σ D b b') : SRel σ D (⟨T, F'⟩ : Program) (⟨T, F⟩ : Program) Eq ((eqK d t a b).1 (.struct fs)) ((eqK d t a' b').1 (.struct fs)) := by
  cases ha with
  | agg h1 h2 =>
    cases hb with
    | agg h3 h4 =>
      refine sr_program ?_
      rw [te.stood]
      refine sr_ite (fun _ => sr_unsb) (fun _ => ?_)
      refine SRel.bind (R := Eq) (sr_forA (fun f s s' e => ?_) fs _ _ rfl) (fun a b e => by subst e; obtain ⟨x, z⟩ := a; cases x <;> exact sr_pure rfl)
      refine sr_ite (fun _ => ?_) (fun _ => sr_pure (.yield rfl))
      refine (sr_part f.type ⟨h1, h2⟩ _).bind (fun p p' hp => ?_)
      refine (sr_part f.type ⟨h3, h4⟩ _).bind (fun q q' hq => ?_)
      refine (ih f.type hp hq).bind (fun r r' e => ?_)
      subst e
      exact sr_ite (fun _ => sr_pure (.done rfl)) (fun _ => sr_pure (.yield rfl))
    | _ => exact sr_stuck
  | _ => exact sr_stuck
theorem eq_array (ih : EqD σ D T F' F d) (len : Nat) (el : TypeId) (ha : VR σ D a a') (hb : VR σ D b b') : SRel σ D (⟨T, F'⟩ : Program) (⟨T, F⟩ : Program) Eq ((eqK d t a b).1 (.array len el)) ((eqK d t a' b').1 (.array len el)) := by
  cases ha with
  | agg h1 h2 =>
    cases hb with
    | agg h3 h4 =>
      refine sr_sizeOf _ (fun n => ?_)
      refine SRel.bind (R := Eq) (sr_forR (fun i s s' e => ?_) len _ _ rfl) (fun a b e => by subst e; obtain ⟨x, z⟩ := a; cases x <;> exact sr_pure rfl)
      refine (sr_part el ⟨h1, h2⟩ _).bind (fun p p' hp => ?_)
      refine (sr_part el ⟨h3, h4⟩ _).bind (fun q q' hq => ?_)
      refine (ih el hp hq).bind (fun r r' e => ?_)
      subst e
      exact sr_ite (fun _ => sr_pure (.done rfl)) (fun _ => sr_pure (.yield rfl))
    | _ => exact sr_stuck
  | _ => exact sr_stuck
end
/-- The comparison, at whatever depth. -/
theorem sr_equalIn (te : TE T F' F) (hinj : ∀ r r', D r → D r' → σ r = σ r' → r = r') (hG : ∀ r, D r → (σ r < T.globals.size ↔ r < T.globals.size)) : ∀ d, EqD σ D T F' F d
  | 0, t, a, a', b, b', ha, hb => sr_uns
  | d + 1, t, a, a', b, b', ha, hb => by
    have ih := sr_equalIn te hinj hG d
    rw [(eqK d t a b).2, (eqK d t a' b').2]
    refine sr_und t (fun u => ?_)
    cases u with
    | bool => exact eq_bool ha hb
    | int k => exact eq_int hinj hG k ha hb
    | float k => exact eq_float k ha hb
    | complex k => exact eq_complex k ha hb
    | string => exact eq_string ha hb
    | unsafePointer => exact eq_unsafe hinj ha hb
    | pointer e => exact eq_pointer hinj e ha hb
    | slice e => exact eq_slice e ha hb
    | array n e => exact eq_array ih n e ha hb
    | map k e => exact eq_map k e ha hb
    | chan x e => exact eq_chan x e ha hb
    | struct fs => exact eq_struct ih te fs ha hb
    | func p r v => exact eq_func p r v ha hb
    | interface ms => exact eq_iface ih te ms ha hb
    | _ => exact sr_stuck
theorem sr_equal (te : TE T F' F) (hinj : ∀ r r', D r → D r' → σ r = σ r' → r = r') (hG : ∀ r, D r → (σ r < T.globals.size ↔ r < T.globals.size)) (t : TypeId) {a a' b b' : Value} (ha : VR σ D a a') (hb : VR σ D b b') : SRel σ D (⟨T, F'⟩ : Program) (⟨T, F⟩ : Program) Eq (Op.equal t a b) (Op.equal t a' b') := sr_equalIn te hinj hG _ t ha hb
end
end Go.Proofs.Ytgfgoflhmikalaa.par

namespace Go.Proofs.Ytgfgoflhmikalaa.par
open Go
set_option linter.unusedVariables false
set_option linter.unusedSimpArgs false
section
variable {T : Tables} {F' F : Array Func}
theorem alike_eq : ∀ n, Program.alikeButTags (⟨T, F'⟩ : Program) n = Program.alikeButTags (⟨T, F⟩ : Program) n
  | 0 => rfl
  | n + 1 => by
    funext t u
    unfold Program.alikeButTags
    rw [alike_eq n]
theorem stoodInAs_eq (t : TypeId) : Program.stoodInAs (⟨T, F'⟩ : Program) t = Program.stoodInAs (⟨T, F⟩ : Program) t := by
  unfold Program.stoodInAs
  have e : (⟨T, F'⟩ : Program).depth = (⟨T, F⟩ : Program).depth := rfl
  rw [e, alike_eq (F' := F') (F := F)]
  rfl
theorem stood_eq (t : TypeId) : Program.stoodInHeld (⟨T, F'⟩ : Program) t = Program.stoodInHeld (⟨T, F⟩ : Program) t := by
  unfold Program.stoodInHeld
  rw [stoodInAs_eq (F' := F') (F := F)]
theorem ownRow_eq (c : String × TypeId) : Program.ownRow (⟨T, F'⟩ : Program) c = Program.ownRow (⟨T, F⟩ : Program) c := rfl
theorem packed_eq (t : TypeId) : Program.packed (⟨T, F'⟩ : Program) t = Program.packed (⟨T, F⟩ : Program) t := by
  unfold Program.packed Program.packedAs
  have e : (⟨T, F'⟩ : Program).depth = (⟨T, F⟩ : Program).depth := rfl
  rw [e, alike_eq (F' := F') (F := F)]
  rfl
theorem holdsPacked_eq : ∀ d, Program.holdsPacked (⟨T, F'⟩ : Program) d = Program.holdsPacked (⟨T, F⟩ : Program) d
  | 0 => rfl
  | d + 1 => by
    funext t
    unfold Program.holdsPacked
    rw [packed_eq (F' := F') (F := F), holdsPacked_eq d]
    rfl
theorem holdsStoodIn_eq : ∀ d, Program.holdsStoodIn (⟨T, F'⟩ : Program) d = Program.holdsStoodIn (⟨T, F⟩ : Program) d
  | 0 => rfl
  | d + 1 => by
    funext t
    unfold Program.holdsStoodIn
    rw [stood_eq (F' := F') (F := F), holdsStoodIn_eq d]
    rfl
theorem eqGuardType_eq : ∀ d, Program.eqGuardType (⟨T, F'⟩ : Program) d = Program.eqGuardType (⟨T, F⟩ : Program) d
  | 0 => rfl
  | d + 1 => by
    funext t
    unfold Program.eqGuardType
    rw [eqGuardType_eq d]
    rfl
theorem te_all : TE T F' F := ⟨stood_eq, fun d t => by rw [holdsPacked_eq (F' := F') (F := F)]⟩
theorem sameLayout_eq : ∀ d, sameLayout (⟨T, F'⟩ : Program) d = sameLayout (⟨T, F⟩ : Program) d
  | 0 => rfl
  | d + 1 => by
    funext t u
    unfold sameLayout
    rw [stood_eq (F' := F') (F := F), stood_eq (F' := F') (F := F), sameLayout_eq d]
    rfl
theorem rowAt_eq (fits : TypeId → Bool) : ∀ d, rowAt (⟨T, F'⟩ : Program) fits d = rowAt (⟨T, F⟩ : Program) fits d
  | 0 => rfl
  | d + 1 => by
    funext e c o n
    unfold rowAt
    rw [stood_eq (F' := F') (F := F), rowAt_eq fits d]
    rfl
theorem liesAt_eq : ∀ d, liesAt (⟨T, F'⟩ : Program) d = liesAt (⟨T, F⟩ : Program) d
  | 0 => rfl
  | d + 1 => by
    funext e c o u n
    unfold liesAt
    have e : (⟨T, F'⟩ : Program).depth = (⟨T, F⟩ : Program).depth := rfl
    rw [e, sameLayout_eq (F' := F') (F := F), rowAt_eq (F' := F') (F := F), liesAt_eq d]
    rfl
theorem cellOfByte_eq : ∀ d, cellOfByte (⟨T, F'⟩ : Program) d = cellOfByte (⟨T, F⟩ : Program) d
  | 0 => rfl
  | d + 1 => by
    funext t b
    unfold cellOfByte
    rw [cellOfByte_eq d]
    rfl
theorem byteOfCell_fn (d : Nat) : byteOfCell (⟨T, F'⟩ : Program) d = byteOfCell (⟨T, F⟩ : Program) d := funext fun t => funext fun o => byteOfCell_eq d t o
theorem cellAtBytes_eq (d : Nat) (e : TypeId) (c o : Nat) (b : Int) : cellAtBytes (⟨T, F'⟩ : Program) d e c o b = cellAtBytes (⟨T, F⟩ : Program) d e c o b := by
  unfold cellAtBytes
  rw [cellOfByte_eq (F' := F') (F := F), byteOfCell_fn (F' := F') (F := F)]
  rfl
end
section
variable {σ : Nat → Nat} {D : Nat → Prop} {T : Tables} {F' F : Array Func}
theorem AR.at {a a' : Addr} (h : AR σ D a a') (o : Nat) (s : Option Nat) : AR σ D { a with off := o, spot := s } { a' with off := o, spot := s } := ⟨h.1, by rw [h.2]⟩
theorem sr_seenAt {a a' : Addr} (h : AR σ D a a') : SRel σ D (⟨T, F'⟩ : Program) (⟨T, F⟩ : Program) (AR σ D) (Conv.seenAt a) (Conv.seenAt a') := by
  unfold Conv.seenAt
  have e1 : a'.block = σ a.block := by rw [h.2]
  have e2 : a'.spot = a.spot := by rw [h.2]
  have e3 : a'.off = a.off := by rw [h.2]
  rw [e1, e2, e3]
  refine (sr_viewAt h.1).bind (fun x y hxy => ?_)
  cases hxy with
  | none => exact sr_pure h
  | @some s s' hs t =>
    dsimp only
    refine sr_ite (fun _ => sr_pure hs) (fun _ => ?_)
    have e4 : s'.spot = s.spot := by rw [hs.2]
    have e5 : s'.block = σ s.block := by rw [hs.2]
    have e6 : s'.off = s.off := by rw [hs.2]
    rw [e4, e5, e6]
    refine sr_ite (fun _ => sr_unsb) (fun _ => ?_)
    refine sr_program ?_
    have e0 : (⟨T, F'⟩ : Program).depth = (⟨T, F⟩ : Program).depth := rfl
    rw [e0, byteOfCell_eq (F' := F') (F := F)]
    split
    · refine (sr_shape hs.1).bind (fun x y e => ?_)
      subst e
      split
      · refine sr_ite (fun _ => sr_unsb) (fun _ => ?_)
        have e4 : ∀ e, (⟨T, F'⟩ : Program).cellsOf e = (⟨T, F⟩ : Program).cellsOf e := fun _ => rfl
        rw [cellAtBytes_eq (F' := F') (F := F), e4]
        rename_i bb _ _ ee cc _
        generalize cellAtBytes (⟨T, F⟩ : Program) (⟨T, F⟩ : Program).depth ee (cc / (⟨T, F⟩ : Program).cellsOf ee) s.off bb = o
        cases o with
        | none => exact sr_uns
        | some c => exact sr_pure (show AR σ D { block := s.block, off := c, spot := s.spot } { block := σ s.block, off := c, spot := s.spot } from ⟨hs.1, rfl⟩)
      · exact sr_uns
    · exact sr_uns
theorem sr_cellsIn {r : Nat} (h : D r) : SRel σ D (⟨T, F'⟩ : Program) (⟨T, F⟩ : Program) Eq (cellsIn r) (cellsIn (σ r)) := by
  unfold cellsIn
  refine (sr_shape h).bind (fun a b e => ?_)
  subst e
  split
  · exact sr_pure rfl
  · refine .getObj h (fun o o' ho => ?_)
    cases ho <;> exact sr_pure rfl
theorem sr_newView {a a' : Addr} (h : AR σ D a a') (t : TypeId) : SRel σ D (⟨T, F'⟩ : Program) (⟨T, F⟩ : Program) (VR σ D) (do pure (.pointer (some ⟨← newObj (.view a t), 0, none⟩)) : Sem Value) (do pure (.pointer (some ⟨← newObj (.view a' t), 0, none⟩)) : Sem Value) :=
  .new (.view h t) (fun r hd => .pure (.ptr ⟨hd, rfl⟩))
theorem sr_asNumber {a a' : Addr} (h : AR σ D a a') (l : Bool) : SRel σ D (⟨T, F'⟩ : Program) (⟨T, F⟩ : Program) (VR σ D) (asNumber a l) (asNumber a' l) := .new (.number h l) (fun r hd => .pure (.ptr ⟨hd, rfl⟩))
theorem sr_variablesAt {a a' : Addr} (h : AR σ D a a') (u : TypeId) (n : Nat) : SRel σ D (⟨T, F'⟩ : Program) (⟨T, F⟩ : Program) Eq (variablesAt a u n) (variablesAt a' u n) := by
  unfold variablesAt
  refine sr_program ?_
  have e1 : a'.block = σ a.block := by rw [h.2]
  have e3 : a'.off = a.off := by rw [h.2]
  rw [e1, e3]
  refine (sr_shape h.1).bind (fun x y e => ?_)
  subst e
  split
  · have e0 : (⟨T, F'⟩ : Program).depth = (⟨T, F⟩ : Program).depth := rfl
    rw [e0, liesAt_eq (F' := F') (F := F)]
    exact sr_pure rfl
  · exact sr_pure rfl
theorem sr_unsafePtr (src dst : TypeId) {v v' : Value} (h : VR σ D v v') : SRel σ D (⟨T, F'⟩ : Program) (⟨T, F⟩ : Program) (VR σ D) (Conv.unsafePointer src dst v) (Conv.unsafePointer src dst v') := by
  unfold Conv.unsafePointer
  refine sr_und src (fun d => ?_)
  refine sr_und dst (fun e => ?_)
  cases d with
  | pointer t =>
    cases e with
    | unsafePointer =>
      cases h with
      | nilp => exact sr_pure .nilp
      | ptr ha =>
        refine (sr_seenAt ha).bind (fun s s' hs => ?_)
        have e5 : s'.block = σ s.block := by rw [hs.2]
        have e6 : s'.off = s.off := by rw [hs.2]
        have e7 : s'.spot = s.spot := by rw [hs.2]
        rw [e5, e6, e7]
        refine (sr_cellsIn hs.1).bind (fun x y e => ?_)
        subst e
        dsimp only
        refine sr_sizeOf t (fun n => ?_)
        exact sr_ite (fun _ => sr_newView hs t) (fun _ => sr_pure (.ptr hs))
      | _ => exact sr_stuck
    | _ => exact sr_stuck
  | unsafePointer =>
    cases e with
    | pointer u =>
      cases h with
      | nilp => exact sr_pure .nilp
      | ptr ha =>
        refine (sr_seenAt ha).bind (fun s s' hs => ?_)
        refine sr_sizeOf u (fun n => ?_)
        refine (sr_variablesAt hs u 1).bind (fun x y e => ?_)
        subst e
        refine sr_ite (fun _ => sr_pure (.ptr hs)) (fun _ => ?_)
        have e5 : s'.block = σ s.block := by rw [hs.2]
        rw [e5]
        refine (sr_shape hs.1).bind (fun x y e => ?_)
        subst e
        cases x with
        | none => exact sr_unsb
        | some p =>
          refine sr_program ?_
          refine sr_program ?_
          have e0 : (⟨T, F'⟩ : Program).depth = (⟨T, F⟩ : Program).depth := rfl
          rw [e0, holdsStoodIn_eq (F' := F') (F := F)]
          exact sr_ite (fun _ => sr_unsb) (fun _ => sr_newView hs u)
      | _ => exact sr_stuck
    | unsafePointer =>
      cases h with
      | nilp => exact sr_pure .nilp
      | ptr ha => exact sr_pure (.ptr ha)
      | _ => exact sr_stuck
    | int k =>
      cases h with
      | nilp => exact sr_pure (.int _ _)
      | ptr ha => exact sr_asNumber ha false
      | _ => exact sr_stuck
    | _ => exact sr_stuck
  | int k =>
    cases e with
    | unsafePointer => cases h <;> first | exact sr_stuck | exact sr_uns | (split <;> first | exact sr_uns | exact sr_stuck | (exfalso; simp_all; done))
    | _ => exact sr_stuck
  | _ => exact sr_stuck
/-- Two pointers to places. -/
def PtrR (σ : Nat → Nat) (D : Nat → Prop) (v v' : Value) : Prop := ∃ a a', AR σ D a a' ∧ v = .pointer (some a) ∧ v' = .pointer (some a')
theorem sr_unsafeAdd (at' : Array TypeId) (t : TypeId) {x x' y y' : Value} (hx : VR σ D x x') (hy : VR σ D y y') : SRel σ D (⟨T, F'⟩ : Program) (⟨T, F⟩ : Program) (PtrR σ D) (Builtin.unsafeAdd_ at' t #[x, y]) (Builtin.unsafeAdd_ at' t #[x', y']) := by
  unfold Builtin.unsafeAdd_
  cases hx with
  | nilp =>
    refine (sr_asInt hy).bind (fun a b e => ?_)
    subst e
    dsimp only
    refine sr_ite (fun _ => sr_unsb) (fun _ => ?_)
    exact sr_ite (fun _ => sr_unsb) (fun _ => sr_uns)
  | @ptr p p' h =>
    refine (sr_asInt hy).bind (fun a b e => ?_)
    subst e
    have e1 : p'.block = σ p.block := by rw [h.2]
    have e3 : p'.off = p.off := by rw [h.2]
    dsimp only
    rw [e1, e3]
    refine sr_ite (fun _ => ?_) (fun _ => ?_)
    · refine (sr_viewAt h.1).bind (fun x y hxy => ?_)
      cases hxy with
      | none => exact sr_pure ⟨_, _, h, rfl, rfl⟩
      | some _ _ => exact sr_unsb
    · refine sr_ite (fun _ => sr_unsb) (fun _ => ?_)
      refine (sr_shape h.1).bind (fun x y e => ?_)
      subst e
      split
      · refine sr_program ?_
        have e0 : (⟨T, F'⟩ : Program).depth = (⟨T, F⟩ : Program).depth := rfl
        rw [e0, cellAtBytes_eq (F' := F') (F := F)]
        have e4 : ∀ e, (⟨T, F'⟩ : Program).cellsOf e = (⟨T, F⟩ : Program).cellsOf e := fun _ => rfl
        rw [e4]
        split
        · rename_i off _
          exact sr_pure ⟨{ p with off := off }, { p' with off := off }, ⟨h.1, by rw [h.2]⟩, rfl, by rw [e1]⟩
        · exact sr_uns
      · exact sr_uns
  | _ => exact sr_stuck
end
end Go.Proofs.Ytgfgoflhmikalaa.par

namespace Go.Proofs.Ytgfgoflhmikalaa.par
open Go
set_option linter.unusedVariables false
set_option linter.unusedSimpArgs false
section
variable {σ : Nat → Nat} {D : Nat → Prop} {T : Tables} {F' F : Array Func}
theorem sr_twoPlaces (hinj : ∀ r r', D r → D r' → σ r = σ r' → r = r') (hG : ∀ r, D r → (σ r < T.globals.size ↔ r < T.globals.size)) {a a' b b' : Addr} (ha : AR σ D a a') (hb : AR σ D b b') : SRel σ D (⟨T, F'⟩ : Program) (⟨T, F⟩ : Program) Eq (Op.twoPlaces a b) (Op.twoPlaces a' b') := by
  unfold Op.twoPlaces
  refine sr_program ?_
  have e1 : (a'.block != b'.block) = (a.block != b.block) := by
    have := block_beq hinj ha hb
    simp only [bne, this]
  have e2 : decide (a'.block ≥ T.globals.size) = decide (a.block ≥ T.globals.size) := by
    have h3 := hG _ ha.1
    rw [ha.2]
    simp only [decide_eq_decide, ge_iff_le]
    constructor <;> intro h
    · exact Nat.le_of_not_lt fun h2 => Nat.not_lt.2 h (h3.2 h2)
    · exact Nat.le_of_not_lt fun h2 => Nat.not_lt.2 h (h3.1 h2)
  dsimp only
  rw [e1, e2]
  refine sr_ite (fun _ => sr_unsb) (fun _ => ?_)
  refine (sr_byteOf ha).bind (fun p q e => ?_)
  subst e
  refine (sr_byteOf hb).bind (fun p2 q e => ?_)
  subst e
  exact sr_pure rfl
theorem PtrR.vr {v v' : Value} (h : PtrR σ D v v') : VR σ D v v' := by
  obtain ⟨a, a', h, rfl, rfl⟩ := h
  exact .ptr h
theorem sr_movedPointer (t : TypeId) {x x' y y' : Value} (hx : VR σ D x x') (hy : VR σ D y y') (hu : x ≠ .tuple #[]) : SRel σ D (⟨T, F'⟩ : Program) (⟨T, F⟩ : Program) (VR σ D) (movedPointer t x y) (movedPointer t x' y') := by
  unfold movedPointer
  cases hx with
  | @ptr a a' h =>
    have e1 : a'.block = σ a.block := by rw [h.2]
    dsimp only
    rw [e1]
    refine (sr_numberAt h.1).bind (fun x y hxy => ?_)
    cases hxy with
    | none => exact (sr_unsafeAdd #[] t (.ptr h) hy).mono (fun _ _ h => h.vr)
    | some _ _ => exact sr_unsb
  | undef v hv => exact absurd rfl hu
  | nilp => exact (sr_unsafeAdd #[] t .nilp hy).mono (fun _ _ h => h.vr)
  | _ => exact sr_stuck
theorem sr_movedNumber (t : TypeId) {x x' y y' : Value} (hx : VR σ D x x') (hy : VR σ D y y') (hu : x ≠ .tuple #[]) : SRel σ D (⟨T, F'⟩ : Program) (⟨T, F⟩ : Program) (VR σ D) (movedNumber t x y) (movedNumber t x' y') := by
  unfold movedNumber
  refine sr_und t (fun d => ?_)
  refine sr_ite (fun _ => sr_unsb) (fun _ => ?_)
  cases hx with
  | ptr h =>
    refine (sr_behind h).bind (fun p q ⟨hp, e⟩ => ?_)
    obtain ⟨pa, pl⟩ := p
    obtain ⟨qa, ql⟩ := q
    dsimp only at hp e ⊢
    subst e
    refine (sr_unsafeAdd #[] t (.ptr hp) hy).bind (fun v v' hv => ?_)
    obtain ⟨a, a', ha, rfl, rfl⟩ := hv
    exact sr_asNumber ha _
  | undef v hv => exact absurd rfl hu
  | nilp => exact (sr_unsafeAdd #[] t .nilp hy).mono (fun _ _ h => h.vr)
  | _ => exact sr_stuck
theorem sr_addrSub (hinj : ∀ r r', D r → D r' → σ r = σ r' → r = r') (hG : ∀ r, D r → (σ r < T.globals.size ↔ r < T.globals.size)) (k : IntKind) {a a' b b' : Addr} (ha : AR σ D a a') (hb : AR σ D b b') : SRel σ D (⟨T, F'⟩ : Program) (⟨T, F⟩ : Program) (VR σ D) (Op.addrSub k a b) (Op.addrSub k a' b') :=
  (sr_twoPlaces hinj hG ha hb).bind (fun x y e => by subst e; exact sr_pure (.int _ _))
theorem sr_addrCmp (hinj : ∀ r r', D r → D r' → σ r = σ r' → r = r') (hG : ∀ r, D r → (σ r < T.globals.size ↔ r < T.globals.size)) (op : BinOp) {a a' b b' : Addr} (ha : AR σ D a a') (hb : AR σ D b b') : SRel σ D (⟨T, F'⟩ : Program) (⟨T, F⟩ : Program) (VR σ D) (Op.addrCmp op a b) (Op.addrCmp op a' b') :=
  (sr_twoPlaces hinj hG ha hb).bind (fun x y e => by subst e; cases op <;> first | exact sr_pure (.bool _) | exact sr_uns)
theorem sr_addrMod (k : IntKind) {a a' : Addr} (ha : AR σ D a a') (n : Int) : SRel σ D (⟨T, F'⟩ : Program) (⟨T, F⟩ : Program) (VR σ D) (Op.addrMod k a n) (Op.addrMod k a' n) := by
  unfold Op.addrMod
  have e1 : a'.block = σ a.block := by rw [ha.2]
  rw [e1]
  refine (sr_shape ha.1).bind (fun x y e => ?_)
  subst e
  split
  · refine sr_info _ (fun i _ => ?_)
    dsimp only
    refine sr_ite (fun _ => sr_unsb) (fun _ => ?_)
    refine (sr_byteOf ha).bind (fun x y e => ?_)
    subst e
    exact sr_pure (.int _ _)
  · exact sr_uns
theorem sr_eqGuard (op : BinOp) (t : TypeId) (x y : Operand) {a a' b b' : Value} (ha : VR σ D a a') (hb : VR σ D b b') : SRel σ D (⟨T, F'⟩ : Program) (⟨T, F⟩ : Program) (fun _ _ => True) (eqGuard op t x y a b) (eqGuard op t x y a' b') := by
  unfold eqGuard
  refine sr_ite (fun _ => sr_pure trivial) (fun _ => ?_)
  cases ha with
  | nili =>
    cases hb with
    | nili =>
      refine sr_ite (fun _ => sr_pure trivial) (fun _ => ?_)
      refine (sr_eqGuardIn _ t .nili .nili).bind (fun p q e => ?_)
      subst e
      exact sr_ite (fun _ => sr_uns) (fun _ => sr_pure trivial)
    | undef v hv => refine (show SRel σ D (⟨T, F'⟩ : Program) (⟨T, F⟩ : Program) _ (Pure.pure ()) _ from ?_); split <;> first | exact sr_pure trivial | (exfalso; simp_all [okU])
    | _ => exact sr_pure trivial
  | agg h1 h2 =>
    cases hb with
    | agg h3 h4 =>
      refine sr_program ?_
      refine sr_program ?_
      have e0 : (⟨T, F'⟩ : Program).depth = (⟨T, F⟩ : Program).depth := rfl
      rw [e0, eqGuardType_eq (F' := F') (F := F)]
      refine sr_ite (fun _ => sr_pure trivial) (fun _ => ?_)
      refine (sr_eqGuardIn _ t (.agg h1 h2) (.agg h3 h4)).bind (fun p q e => ?_)
      subst e
      exact sr_ite (fun _ => sr_uns) (fun _ => sr_pure trivial)
    | undef v hv => refine (show SRel σ D (⟨T, F'⟩ : Program) (⟨T, F⟩ : Program) _ (Pure.pure ()) _ from ?_); split <;> first | exact sr_pure trivial | (exfalso; simp_all [okU])
    | _ => exact sr_pure trivial
  | undef v hv => refine (show SRel σ D (⟨T, F'⟩ : Program) (⟨T, F⟩ : Program) _ (Pure.pure ()) _ from ?_); split <;> first | exact sr_pure trivial | (exfalso; simp_all [okU])
  | _ => exact sr_pure trivial
/-- Trees that ask and answer, and touch nothing; what they answer is so. -/
inductive Plain {α : Type} (Q : α → Prop) : Sem α → Prop
  | pure {a : α} (h : Q a) : Plain Q (.pure a)
  | choose {q : Question} {k : Nat → Sem α} (h : ∀ n, Plain Q (k n)) : Plain Q (.choose q k)
  | halt {h : Halt} (hb : badHalt h) : Plain Q (.halt h)
theorem Plain.bind {α β : Type} {Q : α → Prop} {Q' : β → Prop} {s : Sem α} (h : Plain Q s) {f : α → Sem β} (hf : ∀ a, Q a → Plain Q' (f a)) : Plain Q' (s >>= f) := by
  show Plain Q' (s.bind f)
  induction h with
  | pure h => exact hf _ h
  | choose _ ih => exact .choose ih
  | halt hb => exact .halt hb
theorem Plain.rel {α : Type} {Q : α → Prop} {R : α → α → Prop} {s : Sem α} (h : Plain Q s) (hr : ∀ a, Q a → R a a) : SRel σ D (⟨T, F'⟩ : Program) (⟨T, F⟩ : Program) R s s := by
  induction h with
  | pure h => exact .pure (hr _ h)
  | choose _ ih => exact .choose ih
  | halt hb => exact .dead (.halt hb)
def any_ {α : Type} : α → Prop := fun _ => True
def atom_ : Value → Prop := fun v => atomB v = true
theorem plain_pure {α : Type} {Q : α → Prop} {a : α} (h : Q a) : Plain Q (Pure.pure a : Sem α) := .pure h
theorem plain_stuck {α : Type} {Q : α → Prop} {w : String} : Plain Q (stuck w : Sem α) := .halt trivial
theorem plain_choose (q : Question) : Plain any_ (Go.choose q) := Plain.choose (fun n => Plain.pure trivial)
theorem plain_floatArith (op : BinOp) (k : FloatKind) (a b : Nat) : Plain atom_ (Op.floatArith op k a b) := by
  unfold Op.floatArith
  have h : ∀ r : Option Nat, Plain atom_ (match r with | some r => Pure.pure (.float k r) | none => do Pure.pure (.float k (← Go.choose (.nanBits k a b)))) := fun r => by
    cases r with
    | some r => exact plain_pure rfl
    | none => exact (plain_choose _).bind (fun _ _ => plain_pure rfl)
  cases op <;> first | exact (plain_pure (Q := any_) trivial).bind (fun r _ => h r) | exact (plain_stuck (Q := any_)).bind (fun r _ => h r)
theorem plain_floatCmp (op : BinOp) (k : FloatKind) (a b : Nat) : Plain atom_ (Op.floatCmp op k a b) := by
  unfold Op.floatCmp
  cases op <;> first | exact plain_pure rfl | exact plain_stuck
theorem plain_arith (op : BinOp) (k : FloatKind) (a b : Nat) : Plain any_ (Op.Complex.arith op k a b) := by
  unfold Op.Complex.arith
  refine (plain_floatArith op k a b).bind (fun v _ => ?_)
  cases v <;> first | exact plain_pure trivial | exact plain_stuck
theorem plain_asBool (v : Value) : Plain any_ (asBool v) := by cases v <;> first | exact plain_pure trivial | exact plain_stuck
theorem plain_cmp (op : BinOp) (k : FloatKind) (a b : Nat) : Plain any_ (Op.Complex.cmp op k a b) := (plain_floatCmp op k a b).bind (fun v _ => plain_asBool v)
theorem plain_f2f (s : FloatKind) (x : Nat) (d : FloatKind) : Plain atom_ (Conv.floatToFloat s x d) := by
  unfold Conv.floatToFloat
  split
  · exact plain_pure rfl
  · split
    · exact (plain_choose _).bind (fun _ _ => plain_pure rfl)
    · exact plain_pure rfl
    · dsimp only
      split
      · exact (plain_choose _).bind (fun _ _ => plain_pure rfl)
      · exact plain_pure rfl
theorem plain_conv (s : FloatKind) (x : Nat) (d : FloatKind) : Plain any_ (Op.Complex.conv s x d) := by
  unfold Op.Complex.conv
  split
  · exact plain_pure trivial
  · refine (plain_f2f s x d).bind (fun v _ => ?_)
    cases v <;> first | exact plain_pure trivial | exact plain_stuck
theorem plain_complexOp (op : BinOp) (k : FloatKind) (a b c d : Nat) : Plain atom_ (Op.complexOp op k a b c d) := by
  unfold Op.complexOp Op.Complex.product Op.Complex.quotient Op.Complex.corrected Op.Complex.add Op.Complex.sub Op.Complex.mul Op.Complex.quo
  cases op <;> dsimp only <;> repeat' (first | exact plain_pure trivial | exact plain_pure rfl | exact plain_stuck | exact plain_arith _ _ _ _ | exact plain_cmp _ _ _ _ | exact plain_conv _ _ _ | refine Plain.bind (Q := any_) ?_ (fun _ _ => ?_) | split)
theorem sr_floatArith (op : BinOp) (k : FloatKind) (a b : Nat) : SRel σ D (⟨T, F'⟩ : Program) (⟨T, F⟩ : Program) (VR σ D) (Op.floatArith op k a b) (Op.floatArith op k a b) := (plain_floatArith op k a b).rel (fun _ h => atom_self h)
theorem sr_floatCmp (op : BinOp) (k : FloatKind) (a b : Nat) : SRel σ D (⟨T, F'⟩ : Program) (⟨T, F⟩ : Program) (VR σ D) (Op.floatCmp op k a b) (Op.floatCmp op k a b) := (plain_floatCmp op k a b).rel (fun _ h => atom_self h)
theorem sr_complexOp (op : BinOp) (k : FloatKind) (a b c d : Nat) : SRel σ D (⟨T, F'⟩ : Program) (⟨T, F⟩ : Program) (VR σ D) (Op.complexOp op k a b c d) (Op.complexOp op k a b c d) := (plain_complexOp op k a b c d).rel (fun _ h => atom_self h)
theorem ptr_ne {a : Addr} : Value.pointer (some a) ≠ .tuple #[] := by simp
theorem nilp_ne : Value.pointer none ≠ .tuple #[] := by simp
theorem int_ne {k : IntKind} {n : Int} : Value.int k n ≠ .tuple #[] := by simp
theorem dead_und {α : Type} {t : TypeId} {f : TypeDesc → Sem α} (h : ∀ d, Dead (f d)) : Dead (underlying t >>= f) := by
  refine Dead.program (fun p => ?_)
  show Dead (Sem.bind (match Program.underlying p t with | some d => Pure.pure d | none => stuck "no such type") f)
  rcases Program.underlying p t with _ | d
  · exact Dead.halt (h := .stuck "no such type") trivial
  · exact h d
theorem dead_eqL (t : TypeId) (b : Value) : Dead (Op.equal t (.tuple #[]) b) := by
  show Dead (Op.equalIn (9999 + 1) t (.tuple #[]) b)
  rw [(eqK 9999 t (.tuple #[]) b).2]
  refine dead_und (fun u => ?_)
  cases u <;> first | exact .halt trivial | (cases b <;> exact .halt trivial)
theorem dead_eqR (t : TypeId) (a : Value) : Dead (Op.equal t a (.tuple #[])) := by
  show Dead (Op.equalIn (9999 + 1) t a (.tuple #[]))
  rw [(eqK 9999 t a (.tuple #[])).2]
  refine dead_und (fun u => ?_)
  cases u <;> first | exact .halt trivial | (cases a <;> first | exact .halt trivial | (rename_i p _ _; cases p <;> exact .halt trivial) | (rename_i p; cases p <;> exact .halt trivial) | (dsimp only [eqK]; split <;> first | exact .halt trivial | (exfalso; simp_all; done)))
theorem dead_binL (op : BinOp) (t : TypeId) (b : Value) : Dead (binOp op t (.tuple #[]) b) := by
  cases op <;> cases b <;> first | exact .halt trivial | exact (dead_eqL t _).bind _
theorem dead_binR (op : BinOp) (t : TypeId) (a : Value) : Dead (binOp op t a (.tuple #[])) := by
  cases op <;> cases a <;> first | exact .halt trivial | exact (dead_eqR t _).bind _ | (rename_i p; cases p <;> first | exact .halt trivial | exact (dead_eqR t _).bind _)
end
end Go.Proofs.Ytgfgoflhmikalaa.par
