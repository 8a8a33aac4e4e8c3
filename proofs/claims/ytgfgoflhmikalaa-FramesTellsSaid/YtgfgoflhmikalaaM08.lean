/- Part 8 of what the proofs stand on: lemmas on worlds, on goroutines, contracts of functions. No conditions. -/
import Derived.Test.YtgfgoflhmikalaaM07
import Derived.Conc.Own
namespace Go.Proofs.Ytgfgoflhmikalaa.par
open Go Go.Conc
set_option linter.unusedVariables false
set_option linter.unusedSimpArgs false
/-! ### functions without a body that are served -/
section
variable {T : Tables}
theorem sr_read {σ : Nat → Nat} {D : Nat → Prop} {F' F : Array Func} (k : IntKind) {a a' : Addr} (h : AR σ D a a') : SRel σ D (⟨T, F'⟩ : Program) (⟨T, F⟩ : Program) (VR σ D) (Extern.Atomic.read (.int k) a) (Extern.Atomic.read (.int k) a') := by
  unfold Extern.Atomic.read
  refine (sr_load _ h).bind (fun v v' hv => ?_)
  cases hv with
  | int k' n =>
    dsimp only
    exact sr_ite (fun _ => sr_pure (.int k' n)) (fun _ => sr_uns)
  | ptr ha => cases k <;> first | exact sr_uns | exact sr_pure (.ptr ha)
  | _ => exact sr_uns
theorem args1 {σ : Nat → Nat} {D : Nat → Prop} {a a' : Array Value} (h : VsR σ D a a') : (∃ x y, a = #[x] ∧ a' = #[y] ∧ VR σ D x y) ∨ (a.size ≠ 1 ∧ a'.size ≠ 1) := by
  by_cases hs : a.size = 1
  · obtain ⟨x, rfl⟩ := Array.size_eq_one_iff.1 hs
    obtain ⟨y, rfl⟩ := Array.size_eq_one_iff.1 (h.1 ▸ hs)
    exact .inl ⟨x, y, rfl, rfl, h.2 0 x y rfl rfl⟩
  · exact .inr ⟨hs, h.1 ▸ hs⟩
theorem ext_same : ExtR T Extern.AbiNoEscape.same := by
  intro σ D F' F a a' h
  rcases args1 h with ⟨x, y, rfl, rfl, hv⟩ | ⟨h1, h2⟩
  · exact sr_pure hv
  · obtain ⟨l⟩ := a
    rcases l with _ | ⟨x, _ | ⟨y, l⟩⟩
    · exact sr_stuck
    · exact absurd rfl h1
    · exact sr_stuck
theorem ext_load (k : IntKind) : ExtR T (Extern.Atomic.loadT (.int k)) := by
  intro σ D F' F a a' h
  rcases args1 h with ⟨x, y, rfl, rfl, hv⟩ | ⟨h1, h2⟩
  · exact (sr_asAddr hv).bind fun p q hpq => sr_read k hpq
  · obtain ⟨l⟩ := a
    rcases l with _ | ⟨x, _ | ⟨y, l⟩⟩
    · exact sr_stuck
    · exact absurd rfl h1
    · exact sr_stuck
theorem args2 {σ : Nat → Nat} {D : Nat → Prop} {a a' : Array Value} (h : VsR σ D a a') : (∃ x y z t, a = #[x, z] ∧ a' = #[y, t] ∧ VR σ D x y ∧ VR σ D z t) ∨ (a.size ≠ 2 ∧ a'.size ≠ 2) := by
  by_cases hs : a.size = 2
  · obtain ⟨⟨l⟩⟩ := a, hs
    obtain ⟨l'⟩ := a'
    have hs' : l'.length = 2 := by have := h.1; simp at this hs; omega
    rcases l with _ | ⟨x, _ | ⟨z, _ | ⟨_, _⟩⟩⟩ <;> simp at hs
    rcases l' with _ | ⟨y, _ | ⟨t, _ | ⟨_, _⟩⟩⟩ <;> simp at hs'
    exact .inl ⟨x, y, z, t, rfl, rfl, h.2 0 x y rfl rfl, h.2 1 z t rfl rfl⟩
  · exact .inr ⟨hs, h.1 ▸ hs⟩
theorem ext_store : ExtR T Extern.Atomic.storeT := by
  intro σ D F' F a a' h
  rcases args2 h with ⟨x, y, z, t, rfl, rfl, hv, hz⟩ | ⟨h1, h2⟩
  · exact (sr_asAddr hv).bind fun p q hpq => (sr_store _ hpq hz).bind fun _ _ _ => sr_pure (.tuple rfl fun i x y hx hy => by simp at hx)
  · obtain ⟨l⟩ := a
    rcases l with _ | ⟨x, _ | ⟨y, _ | ⟨z, l⟩⟩⟩
    · exact sr_stuck
    · exact sr_stuck
    · exact absurd rfl h1
    · exact sr_stuck
theorem ext_update (k : IntKind) (b : Bool) : ExtR T (Extern.Atomic.update (Op.intArith .add) k b) := by
  intro σ D F' F a a' h
  rcases args2 h with ⟨x, y, z, t, rfl, rfl, hv, hz⟩ | ⟨h1, h2⟩
  · refine (sr_asAddr hv).bind fun p q hpq => (sr_read k hpq).bind fun v v' hv => (sr_asInt hv).bind fun m m' e => (sr_asInt hz).bind fun n n' e' => ?_
    subst e e'
    refine SRel.bind (R := fun v v' => VR σ D v v') (sr_pure (.int k _)) fun w w' hw => ?_
    refine (sr_store _ hpq hw).bind fun _ _ _ => ?_
    cases b
    · exact sr_pure hv
    · exact sr_pure hw
  · obtain ⟨l⟩ := a
    rcases l with _ | ⟨x, _ | ⟨y, _ | ⟨z, l⟩⟩⟩
    · exact sr_stuck
    · exact sr_stuck
    · exact absurd rfl h1
    · exact sr_stuck
theorem ext_marked : ExtR T (Extern.Race.marked .acquire) := by
  intro σ D F' F a a' h
  have hat : SRel σ D (⟨T, F'⟩ : Program) (⟨T, F⟩ : Program) (AR σ D) (Extern.Race.at_ a) (Extern.Race.at_ a') := by
    unfold Extern.Race.at_
    rcases ha : a[0]? with _ | x
    · exact sr_stuck
    · have hs : 0 < a'.size := by rw [← h.1]; exact (Array.getElem?_eq_some_iff.1 ha).1
      rw [Array.getElem?_eq_getElem hs]
      have hv := h.2 0 x a'[0] ha (Array.getElem?_eq_getElem hs)
      revert hv
      generalize a'[0] = y
      intro hv
      cases hv <;> first | exact sr_stuck | (rename_i hp; exact sr_pure hp)
  exact hat.bind fun p q hpq => .mark (.acquire hpq) (.pure (.tuple rfl fun i x y hx hy => by simp at hx))
end
/-! ### the three bodies -/
def op0 (d : Option Tmp) (op : Op) (t : TypeId) : Oper := ⟨d, op, t, "", #[], none⟩
/-- Refused unless the mutex's state is x, and it is memory of its own kind; then it is y. -/
def mops0 (x : Int) : Array Oper := #[op0 (some 1) (.fieldAddr 101 (.tmp 0) 0) 0, op0 (some 2) (.load 21 (.tmp 1)) 21, op0 (some 3) (.binOp .eql 21 (.tmp 2) (.const (.int .i32 x)) 21) 4]
def mops1 : Array Oper := #[op0 (some 4) (.alloc 101) 0, op0 (some 5) (.binOp .eql 144 (.tmp 1) (.tmp 4) 144) 4]
def mops2 (y : Int) : Array Oper := #[op0 none (.store 21 (.tmp 1) (.const (.int .i32 y))) 0]
def mrest2 (y : Int) : Code := .seq (.region 1 mops1 false) (.seq (.region 2 (mops2 y) false) .ret)
def mrest1 (y : Int) : Code := .seq (.cond (.tmp 3) .skip (.refuse "pruned")) (mrest2 y)
def muxBody (x y : Int) : Code := .seq (.region 0 (mops0 x) false) (mrest1 y)
/-- hold, one cut behind the other. -/
def holdBody : Code :=
  .seq (.region 0 #[op0 (some 8) (.move (.const (.int .i64 0))) 3, op0 (some 4) (.assign (.const (.bool true))) 4] false)
    (.seq (.block 0 (.loop (.seq (.region 1 #[op0 (some 9) (.call { callee := .builtin .len, args := #[.tmp 1], argTypes := #[63] }) 3, op0 (some 10) (.binOp .lss 3 (.tmp 8) (.tmp 9) 3) 4] false)
      (.seq (.cond (.tmp 10) .skip (.exit 0))
        (.seq (.region 2 #[op0 (some 11) (.indexAddr 63 (.tmp 1) (.tmp 8)) 0, op0 (some 12) (.load 65 (.tmp 11)) 65, op0 (some 13) (.call { callee := .value (.func 46), args := #[.tmp 12, .tmp 0], argTypes := #[65, 9] }) 4] false)
          (.seq (.cond (.tmp 13) .skip (.region 3 #[op0 (some 4) (.assign (.const (.bool false))) 4] false))
            (.region 4 #[op0 (some 14) (.binOp .add 3 (.tmp 8) (.const (.int .i64 1)) 3) 3, op0 (some 8) (.move (.tmp 14)) 3] false))))))) .ret)
/-! ### the lone program -/
def special : List FuncId := [33, 91, 92]
def Sp (f : FuncId) : Prop := f ∈ special
def served : List FuncId := [51, 86, 93]
def refusedF : Func := { (default : Func) with name := "refused", body := none }
def bodyOf (H : Code) (i : FuncId) (c : Code) : Code := if i = 33 then H else if i = 91 then muxBody 0 1 else if i = 92 then muxBody 1 0 else if i = 44 then .refuse "dead" else c
def lf (H : Code) (T : Tables) (i : FuncId) (f : Func) : Func :=
  match f.body with
  | some c => { f with body := some (pr T (bodyOf H i c)) }
  | none => if i ∈ served then f else refusedF
noncomputable def loneF (H : Code) : Array Func := (Try.prog).funcs.mapIdx fun i f => lf H (Try.prog).toTables i f
noncomputable def loneP (H : Code) : Program := ⟨(Try.prog).toTables, loneF H⟩
theorem lone_at {H : Code} {i : Nat} {f' : Func} (h : (loneF H)[i]? = some f') : ∃ f, (Try.prog).funcs[i]? = some f ∧ f' = lf H (Try.prog).toTables i f := by
  unfold loneF at h
  rw [Array.getElem?_mapIdx] at h
  obtain ⟨f, h1, h2⟩ := Option.map_eq_some_iff.1 h
  exact ⟨f, h1, h2.symm⟩
theorem names_ok : (Try.prog).funcs.all (fun f => f.name != "runtime.NumGoroutine") = true := by kernel_rfl
theorem name_ok {i : Nat} {f : Func} (h : (Try.prog).funcs[i]? = some f) : (f.name == "runtime.NumGoroutine") = false := by
  have h1 := names_ok
  rw [Array.all_eq_true_iff_forall_mem] at h1
  have := h1 f (Array.mem_of_getElem? h)
  simpa using this
theorem lone_fs (H : Code) : FsR (Try.prog).toTables (loneF H) (Try.prog).funcs := by
  intro i f' h
  obtain ⟨f, h1, rfl⟩ := lone_at h
  refine ⟨f, h1, ?_⟩
  have hn := name_ok h1
  rcases hb : f.body with _ | c
  · by_cases hi : i ∈ served
    · have e : lf H (Try.prog).toTables i f = f := by unfold lf; rw [hb]; simp [hi]
      rw [e]
      simp only [served, List.mem_cons, List.not_mem_nil, or_false] at hi
      rcases hi with rfl | rfl | rfl
      · obtain rfl := Option.some.inj (Try.func51.symm.trans h1)
        exact .ext rfl (by kernel_rfl) (by kernel_rfl) (e := Extern.AbiNoEscape.same) (by kernel_rfl) ext_same
      · obtain rfl := Option.some.inj (Try.func86.symm.trans h1)
        exact .ext rfl (by kernel_rfl) (by kernel_rfl) (e := Extern.Atomic.loadT (.int .u32)) (by kernel_rfl) (ext_load .u32)
      · obtain rfl := Option.some.inj (Try.func93.symm.trans h1)
        exact .ext rfl (by kernel_rfl) (by kernel_rfl) (e := Extern.Atomic.storeT) (by kernel_rfl) ext_store
    · have e : lf H (Try.prog).toTables i f = refusedF := by unfold lf; rw [hb]; simp [hi]
      rw [e]
      exact .refused rfl (by kernel_rfl) (by kernel_rfl) (by kernel_rfl) (by kernel_rfl)
  · have e : lf H (Try.prog).toTables i f = { f with body := some (pr (Try.prog).toTables (bodyOf H i c)) } := by unfold lf; rw [hb]
    rw [e]
    exact .both rfl hb hn hn
theorem lone_bod (H : Code) : BodR (Try.prog).toTables Sp (loneF H) (Try.prog).funcs := by
  refine ⟨lone_fs H, fun i f' f c' c hs h' h hb' hb => ?_⟩
  obtain ⟨f0, h1, rfl⟩ := lone_at h'
  obtain rfl := Option.some.inj (h1.symm.trans h)
  unfold Sp special at hs
  simp only [List.mem_cons, List.not_mem_nil, or_false, not_or] at hs
  by_cases hd : i = 44
  · have e : lf H (Try.prog).toTables i f0 = { f0 with body := some (pr (Try.prog).toTables (.refuse "dead")) } := by
      unfold lf bodyOf
      rw [hb]
      dsimp only
      rw [if_neg hs.1, if_neg hs.2.1, if_neg hs.2.2, if_pos hd]
    rw [e] at hb' ⊢
    obtain rfl := Option.some.inj hb'
    exact ⟨.refuse _ _, rfl, rfl⟩
  · have e : lf H (Try.prog).toTables i f0 = { f0 with body := some (pr (Try.prog).toTables c) } := by
      unfold lf bodyOf
      rw [hb]
      dsimp only
      rw [if_neg hs.1, if_neg hs.2.1, if_neg hs.2.2, if_neg hd]
    rw [e] at hb' ⊢
    obtain rfl := Option.some.inj hb'
    exact ⟨pr_rel _ c, rfl, rfl⟩
/-! ### the lone program beside itself -/
theorem pr_self (T : Tables) : ∀ c : Code, CodeR T (pr T c) (pr T c) := by
  intro c
  induction c with
  | skip => exact .skip
  | ret => exact .ret
  | label l => exact .label l
  | exit id => exact .exit id
  | region id ops draw =>
    unfold pr
    by_cases h : ops.all (fun o => okOp T o.op) = true
    · rw [if_pos h]
      rw [Array.all_eq_true_iff_forall_mem] at h
      exact .region id draw h
    · rw [if_neg h]; exact .refuse _ _
  | seq a b ha hb => exact .seq ha hb
  | cond c a b ha hb =>
    unfold pr
    by_cases h : okOpd c = true
    · rw [if_pos h]; exact .cond h ha hb
    · rw [if_neg h]; exact .refuse _ _
  | block id a ha => exact .block id ha
  | loop a ha => exact .loop ha
  | scope a ha => exact .scope ha
  | _ => exact .refuse _ _
theorem self_fs (H : Code) : FsR (Try.prog).toTables (loneF H) (loneF H) := by
  intro i f' h
  refine ⟨f', h, ?_⟩
  obtain ⟨f, h1, rfl⟩ := lone_at h
  have hn := name_ok h1
  rcases hb : f.body with _ | c
  · by_cases hi : i ∈ served
    · have e : lf H (Try.prog).toTables i f = f := by unfold lf; rw [hb]; simp [hi]
      rw [e]
      simp only [served, List.mem_cons, List.not_mem_nil, or_false] at hi
      rcases hi with rfl | rfl | rfl
      · obtain rfl := Option.some.inj (Try.func51.symm.trans h1)
        exact .ext rfl (by kernel_rfl) (by kernel_rfl) (e := Extern.AbiNoEscape.same) (by kernel_rfl) ext_same
      · obtain rfl := Option.some.inj (Try.func86.symm.trans h1)
        exact .ext rfl (by kernel_rfl) (by kernel_rfl) (e := Extern.Atomic.loadT (.int .u32)) (by kernel_rfl) (ext_load .u32)
      · obtain rfl := Option.some.inj (Try.func93.symm.trans h1)
        exact .ext rfl (by kernel_rfl) (by kernel_rfl) (e := Extern.Atomic.storeT) (by kernel_rfl) ext_store
    · have e : lf H (Try.prog).toTables i f = refusedF := by unfold lf; rw [hb]; simp [hi]
      rw [e]
      exact .refused rfl (by kernel_rfl) (by kernel_rfl) (by kernel_rfl) (by kernel_rfl)
  · have e : lf H (Try.prog).toTables i f = { f with body := some (pr (Try.prog).toTables (bodyOf H i c)) } := by unfold lf; rw [hb]
    rw [e]
    exact .both rfl rfl hn hn
theorem self_bod (H : Code) : BodR (Try.prog).toTables (fun _ => False) (loneF H) (loneF H) := by
  refine ⟨self_fs H, fun i f' f c' c _ h' h hb' hb => ?_⟩
  obtain rfl := Option.some.inj (h'.symm.trans h)
  obtain rfl := Option.some.inj (hb'.symm.trans hb)
  obtain ⟨f0, h1, rfl⟩ := lone_at h'
  refine ⟨?_, rfl, rfl⟩
  rcases hb0 : f0.body with _ | c0
  · by_cases hi : i ∈ served
    · have e : lf H (Try.prog).toTables i f0 = f0 := by unfold lf; rw [hb0]; simp [hi]
      rw [e, hb0] at hb
      cases hb
    · have e : lf H (Try.prog).toTables i f0 = refusedF := by unfold lf; rw [hb0]; simp [hi]
      rw [e] at hb
      cases hb
  · have e : lf H (Try.prog).toTables i f0 = { f0 with body := some (pr (Try.prog).toTables (bodyOf H i c0)) } := by unfold lf; rw [hb0]
    rw [e] at hb
    obtain rfl := Option.some.inj hb
    exact pr_self _ _
set_option maxRecDepth 100000 in
theorem zp_all : (Try.prog).types.all (fun i => match i.zero with | some v => selfB 6 v | none => true) = true := by kernel_rfl
theorem wk_none : (match (Try.prog).toTables.info? wkT with | some i => (i.methods.find? (fun m => m.name == "")).isNone | none => true) = true := by kernel_rfl
theorem zp : ZP (Try.prog).toTables := by
  refine zp_of _ (fun t i h v hv => ?_) (fun i hi => by
    have h1 := wk_none
    rw [hi] at h1
    simpa using h1)
  have h1 := zp_all
  rw [Array.all_eq_true_iff_forall_mem] at h1
  have := h1 i (Array.mem_of_getElem? h)
  rw [hv] at this
  exact self_of 6 v this
end Go.Proofs.Ytgfgoflhmikalaa.par

namespace Go.Proofs.Ytgfgoflhmikalaa.par
open Go
set_option linter.unusedVariables false
set_option linter.unusedSimpArgs false
/-- The world with another tape. -/
def tp (w : World) (τ : Nat → Question → Nat) : World := { w with tape := τ }
def tpR {α : Type} (τ : Nat → Question → Nat) : Result α → Result α
  | .ok a w => .ok a (tp w τ)
  | .halt h w => .halt h (tp w τ)
/-- The tape tells the same from one count of draws to another. -/
def Agree (τ τ' : Nat → Question → Nat) (a b : Nat) : Prop := ∀ j, a ≤ j → j < b → τ j = τ' j
theorem Agree.sub {τ τ' : Nat → Question → Nat} {a b c d : Nat} (h : Agree τ τ' a b) (h1 : a ≤ c) (h2 : d ≤ b) : Agree τ τ' c d := fun j h3 h4 => h j (by omega) (by omega)
theorem farLoad_tape (p : Program) (w : World) (a : Addr) (b : Bool) (τ : Nat → Question → Nat) : (tp w τ).farLoad p a b = w.farLoad p a b := rfl
theorem farStore_tape (p : Program) (w : World) (a : Addr) (v : Value) (b : Bool) (τ : Nat → Question → Nat) : (tp w τ).farStore p a v b = (match w.farStore p a v b with | .ok (w', L) => .ok (tp w' τ, L) | .error e => .error e) := by
  unfold World.farStore
  have e : (tp w τ).heap = w.heap := rfl
  rw [e]
  rcases w.heap[a.block]? with _ | o
  · rfl
  cases o <;> first | rfl | skip
  dsimp only
  rw [viewStore_eq, viewStore_eq]
  have e2 : ∀ (x : Addr) (t : TypeId), (tp w τ).seen p x t a b = w.seen p x t a b := fun _ _ => rfl
  rw [e2]
  rename_i x t
  by_cases ht : (!tight p p.depth t) = true
  · rw [if_pos ht, if_pos ht]
  rw [if_neg ht, if_neg ht]
  rcases w.seen p x t a b with er | ⟨c, e, fr, first, like, L⟩
  · rfl
  dsimp only
  rcases v.bytes? with _ | bytes
  · rfl
  dsimp only
  by_cases hl : some bytes.length ≠ Option.map (fun (x : List UInt8) => x.length) like.bytes?
  · rw [if_pos hl, if_pos hl]
  rw [if_neg hl, if_neg hl]
  rcases List.foldlM (vfold fr first bytes) c L with er | c1 <;> rfl
theorem freeze_tape (w : World) (a : Addr) (n : Nat) (τ : Nat → Question → Nat) : (tp w τ).freeze a n = tp (w.freeze a n) τ := by
  unfold World.freeze
  split <;> rfl
theorem Dead.tape {α : Type} {s : Sem α} (h : Dead s) (P : Program) : ∀ (w : World) (es : Array Event) (τ : Nat → Question → Nat), Agree τ w.tape w.drawn (resW (s.runT P w es).1).drawn → s.runT P (tp w τ) es = (tpR τ (s.runT P w es).1, (s.runT P w es).2) := by
  induction h with
  | halt hb => intro w es τ _; rfl
  | shape _ ih => intro w es τ h; exact ih _ w _ τ h
  | frozen _ ih => intro w es τ h; exact ih _ w _ τ h
  | @choose q k _ ih =>
    intro w es τ h
    simp only [Sem.runT] at h ⊢
    by_cases hq : q.forced = true
    · rw [if_pos hq] at h ⊢
      rw [if_pos hq]
      exact ih _ w _ τ h
    · rw [if_neg hq] at h ⊢
      rw [if_neg hq]
      have hg := (runT_grows P (k (q.cut (w.tape w.drawn q))) { w with drawn := w.drawn + 1 } es).drawn
      dsimp only at hg
      have e : τ w.drawn = w.tape w.drawn := h w.drawn (Nat.le_refl _) (by omega)
      have e2 : (tp w τ).tape (tp w τ).drawn = w.tape w.drawn := e
      rw [e2]
      exact ih _ { w with drawn := w.drawn + 1 } _ τ (h.sub (Nat.le_succ _) (Nat.le_refl _))
  | program _ ih => intro w es τ h; exact ih _ w _ τ h
  | mark _ ih => intro w es τ h; exact ih w _ τ h
section
variable {σ : Nat → Nat} {D : Nat → Prop} {W0 : World}
/-- The lone tree reads its tape no further than it draws. -/
theorem SRel.tape {α β : Type} {P' P : Program} {R : α → β → Prop} (hP : P'.toTables = P.toTables) (hinj : ∀ r r', D r → D r' → σ r = σ r' → r = r') {s : Sem α} {s' : Sem β} (h : SRel σ D P' P R s s') : ∀ (u w : World) (es0 es : Array Event), WR σ D W0 u w →
    (∀ i, w.drawn + i < (resW (s'.runT P w es).1).drawn → u.tape (u.drawn + i) = w.tape (w.drawn + i)) →
    (∀ i, w.heap.size + i < (resW (s'.runT P w es).1).heap.size → D (u.heap.size + i) ∧ σ (u.heap.size + i) = w.heap.size + i) →
    ∀ τ, Agree τ u.tape u.drawn (resW (s.runT P' u es0).1).drawn → s.runT P' (tp u τ) es0 = (tpR τ (s.runT P' u es0).1, (s.runT P' u es0).2) := by
  induction h with
  | pure h => intro u w es0 es hw _ _ τ _; rfl
  | @load m a a' k k' ha hk ih =>
    intro u w es0 es hw hT hS τ hτ
    have e1 : (tp u τ).cell? a = u.cell? a := rfl
    simp only [Sem.runT, farLoad_tape, e1] at hT hS hτ ⊢
    rcases hc : u.cell? a with _ | v
    · have hfar := farLoad_relP hP hw ha hc (m == .atomic)
      revert hfar
      rw [hc] at hτ
      rcases hx : u.farLoad P' a (m == .atomic) with er | ⟨v, L⟩
      · intro hb; rfl
      · rintro ⟨L', h1, h2, hv, h3⟩
        rw [hx] at hτ
        simp only [h1, h2] at hT hS hτ ⊢
        exact ih v v hv u w _ _ hw hT hS τ hτ
    · obtain ⟨v', hc', hv⟩ := hw.cell ha hc
      rw [hc] at hτ
      simp only [hc'] at hT hS hτ ⊢
      exact ih v v' hv u w _ _ hw hT hS τ hτ
  | @store m a a' v v' k k' ha hv hk ih =>
    intro u w es0 es hw hT hS τ hτ
    by_cases hn : (∃ c, v = .agg c) ∨ (∃ c, v = .tuple c)
    · rcases hn with ⟨c, rfl⟩ | ⟨c, rfl⟩ <;> rfl
    · have hn1 : isTA v = false := by cases v <;> first | rfl | exact absurd (.inl ⟨_, rfl⟩) hn | exact absurd (.inr ⟨_, rfl⟩) hn
      have e1 : ∀ u, (Sem.store m a v k).runT P' u es0 = (match u.cell? a with
        | some _ => if u.frozen? a then (.halt (.unsupported (.unsafePointer "a write to bytes that a string shares")) u, es0) else k.runT P' (u.setCell a v) (es0.push ⟨.cell a, true, m == .atomic⟩)
        | none => match u.farStore P' a v (m == .atomic) with
          | .ok (w, touched) => k.runT P' w (es0 ++ touched.toArray.map (⟨.cell ·, true, m == .atomic⟩))
          | .error h => (.halt h u, es0)) := by
        intro u
        cases v <;> first | rfl | exact absurd (.inl ⟨_, rfl⟩) hn | exact absurd (.inr ⟨_, rfl⟩) hn
      have e2 : (Sem.store m a' v' k').runT P w es = (match w.cell? a' with
        | some _ => if w.frozen? a' then (.halt (.unsupported (.unsafePointer "a write to bytes that a string shares")) w, es) else k'.runT P (w.setCell a' v') (es.push ⟨.cell a', true, m == .atomic⟩)
        | none => match w.farStore P a' v' (m == .atomic) with
          | .ok (w, touched) => k'.runT P w (es ++ touched.toArray.map (⟨.cell ·, true, m == .atomic⟩))
          | .error h => (.halt h w, es)) := by
        cases hv <;> first | rfl | exact absurd (.inl ⟨_, rfl⟩) hn | exact absurd (.inr ⟨_, rfl⟩) hn
      have e3 : (tp u τ).cell? a = u.cell? a := rfl
      have e4 : (tp u τ).frozen? a = u.frozen? a := rfl
      rw [e2] at hT hS
      rw [e1] at hτ
      rw [e1, e1, e3, e4, farStore_tape]
      rcases hc : u.cell? a with _ | v0
      · have hfar := farStore_relP hP hinj hw ha hc hv (m == .atomic)
        revert hfar
        rw [hc] at hτ
        rcases hx : u.farStore P' a v (m == .atomic) with er | ⟨u1, L⟩
        · intro hb; rfl
        · rintro ⟨w1, L', h1, h2, h3, h4, h5, h6, h7, h8, h9, h10, h11⟩
          rw [hx] at hτ
          simp only [h1, h2] at hT hS hτ ⊢
          refine ih u1 w1 _ (es ++ L'.toArray.map (⟨.cell ·, true, m == .atomic⟩)) h3 ?_ ?_ τ (by rw [h9, h7]; exact hτ)
          · intro i hi
            rw [h7, h9, h10, h8]
            rw [h8] at hi
            exact hT i hi
          · intro i hi
            rw [h5, h6]
            rw [h6] at hi
            exact hS i hi
      · obtain ⟨v1, hc', _⟩ := hw.cell ha hc
        have hf := hw.frozen ha
        rw [hc] at hτ
        simp only [hc', hf] at hT hS hτ ⊢
        by_cases hfz : u.frozen? a = true
        · simp only [hfz, if_true]; rfl
        · simp only [if_neg hfz] at hT hS hτ ⊢
          refine ih (u.setCell a v) (w.setCell a' v') _ (es.push ⟨.cell a', true, m == .atomic⟩) (hw.set hinj ha hv hn1) hT ?_ τ hτ
          intro i hi
          have e3 : (u.setCell a v).heap.size = u.heap.size := by simp [World.setCell]
          have e4 : (w.setCell a' v').heap.size = w.heap.size := by simp [World.setCell]
          rw [e4] at hi
          rw [e3, e4]
          exact hS i hi
  | @new o o' k k' ho hk ih =>
    intro u w es0 es hw hT hS τ hτ
    simp only [Sem.runT] at hT hS hτ ⊢
    have hg := (runT_grows P (k' w.heap.size) { w with heap := w.heap.push o' } es).size
    simp only [Array.size_push] at hg
    obtain ⟨hd, hs⟩ := hS 0 (by omega)
    simp only [Nat.add_zero] at hd hs
    exact ih u.heap.size hd { u with heap := u.heap.push o } { w with heap := w.heap.push o' } es0 es (hw.push hinj ho hd hs) (by rw [hs]; exact hT) (fun i hi => by
      rw [hs] at hi
      simp only [Array.size_push] at hi ⊢
      have := hS (i + 1) (by omega)
      rw [show u.heap.size + 1 + i = u.heap.size + (i + 1) by omega, show w.heap.size + 1 + i = w.heap.size + (i + 1) by omega]
      exact this) τ hτ
  | @shape r k k' hd hk ih =>
    intro u w es0 es hw hT hS τ hτ
    simp only [Sem.runT] at hT hS hτ ⊢
    rw [hw.shape hd] at hT hS
    exact ih _ u w es0 es hw hT hS τ hτ
  | @freeze a a' n k k' ha hk ih =>
    intro u w es0 es hw hT hS τ hτ
    simp only [Sem.runT] at hT hS hτ ⊢
    have hsz : ∀ (w : World) (a : Addr), (w.freeze a n).heap.size = w.heap.size := fun w a => by unfold World.freeze; split <;> simp
    have hdr : ∀ (w : World) (a : Addr), (w.freeze a n).drawn = w.drawn ∧ (w.freeze a n).tape = w.tape := fun w a => by unfold World.freeze; split <;> exact ⟨rfl, rfl⟩
    rw [freeze_tape]
    refine ih (u.freeze a n) (w.freeze a' n) es0 es (hw.freeze hinj ha n) (fun i hi => ?_) (fun i hi => ?_) τ (by rw [(hdr u a).1, (hdr u a).2]; exact hτ)
    · rw [(hdr w a').1] at hi
      rw [(hdr u a).1, (hdr u a).2, (hdr w a').1, (hdr w a').2]
      exact hT i hi
    · rw [hsz] at hi
      rw [hsz, hsz]
      exact hS i hi
  | @frozen a a' k k' ha hk ih =>
    intro u w es0 es hw hT hS τ hτ
    simp only [Sem.runT] at hT hS hτ ⊢
    rw [hw.frozen ha] at hT hS
    exact ih _ u w es0 es hw hT hS τ hτ
  | @getObj r k k' hd hk ih =>
    intro u w es0 es hw hT hS τ hτ
    have e1 : (tp u τ).heap = u.heap := rfl
    simp only [Sem.runT, e1] at hT hS hτ ⊢
    rcases ho : u.heap[r]? with _ | o
    · rfl
    · rw [ho] at hτ
      rcases hw.is_cells hd ho with ⟨c, e, f, rfl⟩ | ⟨x, x', t, rfl, ho', hx⟩ | ⟨x, x', t, rfl, ho', hx⟩
      · rfl
      · simp only [ho'] at hT hS hτ ⊢
        exact ih _ _ (.view hx t) u w _ _ hw hT hS τ hτ
      · simp only [ho'] at hT hS hτ ⊢
        exact ih _ _ (.number hx t) u w _ _ hw hT hS τ hτ
  | @choose q k k' hk ih =>
    intro u w es0 es hw hT hS τ hτ
    simp only [Sem.runT] at hT hS hτ ⊢
    by_cases hq : q.forced = true
    · simp only [hq, if_true] at hT hS hτ ⊢
      exact ih 0 u w es0 es hw hT hS τ hτ
    · simp only [if_neg hq] at hT hS hτ ⊢
      have hg := (runT_grows P (k' (q.cut (w.tape w.drawn q))) { w with drawn := w.drawn + 1 } es).drawn
      have hg2 := (runT_grows P' (k (q.cut (u.tape u.drawn q))) { u with drawn := u.drawn + 1 } es0).drawn
      dsimp only at hg2
      have h0 : u.tape u.drawn = w.tape w.drawn := hT 0 (by simp only [Nat.add_zero]; exact hg)
      have e : τ u.drawn = u.tape u.drawn := hτ u.drawn (Nat.le_refl _) (by omega)
      have e2 : (tp u τ).tape (tp u τ).drawn = u.tape u.drawn := e
      rw [e2]
      rw [h0] at hτ ⊢
      exact ih _ { u with drawn := u.drawn + 1 } { w with drawn := w.drawn + 1 } es0 es ⟨hw.obj, hw.fut, hw.low, hw.orig⟩ (fun i hi => by
        have := hT (i + 1) (by dsimp only at hi; rw [show w.drawn + (i + 1) = w.drawn + 1 + i by omega]; exact hi)
        dsimp only
        rw [show u.drawn + 1 + i = u.drawn + (i + 1) by omega, show w.drawn + 1 + i = w.drawn + (i + 1) by omega]
        exact this) hS τ (hτ.sub (Nat.le_succ _) (Nat.le_refl _))
  | program hk ih => intro u w es0 es hw hT hS τ hτ; exact ih u w es0 es hw hT hS τ hτ
  | progl hk ih => intro u w es0 es hw hT hS τ hτ; exact ih u w es0 es hw hT hS τ hτ
  | @mark m m' k k' hm hk ih =>
    intro u w es0 es hw hT hS τ hτ
    exact ih u w _ _ hw hT hS τ hτ
  | panic h => intro u w es0 es hw _ _ τ _; rfl
  | dead h => intro u w es0 es hw _ _ τ hτ; exact h.tape P' u es0 τ hτ
end
end Go.Proofs.Ytgfgoflhmikalaa.par

namespace Go.Proofs.Ytgfgoflhmikalaa.par
open Go Go.Conc
set_option linter.unusedVariables false
set_option linter.unusedSimpArgs false
section
variable (T : Tables) (W0 : World)
/-- From one pair of worlds to the next. -/
structure Moved (σ : Nat → Nat) (D : Nat → Prop) (u w : World) (σ1 : Nat → Nat) (D1 : Nat → Prop) (u1 w1 : World) (es : Array Event) : Prop where
  sit : Sit σ1 D1 T W0 u1 w1
  up : Up σ D σ1 D1
  fresh : ∀ r, D1 r → D r ∨ (u.heap.size ≤ r ∧ σ1 r = w.heap.size + (r - u.heap.size))
  made : ∀ i, w.heap.size + i < w1.heap.size → D1 (u.heap.size + i) ∧ σ1 (u.heap.size + i) = w.heap.size + i
  turned : Turned σ1 D1 u w u1 w1
  evs : ∀ e ∈ es, EvOk σ1 D1 e
end
section
variable {T : Tables} {W0 : World}
theorem Moved.refl {σ : Nat → Nat} {D : Nat → Prop} {u w : World} (h : Sit σ D T W0 u w) : Moved T W0 σ D u w σ D u w #[] :=
  ⟨h, fun r hr => ⟨hr, rfl⟩, fun r hr => .inl hr, fun i hi => by omega, Turned.refl u w, fun e he => by simp at he⟩
theorem Moved.sub {σ σ1 : Nat → Nat} {D D1 : Nat → Prop} {u w u1 w1 : World} {es fs : Array Event} (h : Moved T W0 σ D u w σ1 D1 u1 w1 es) (hf : ∀ e ∈ fs, e ∈ es) : Moved T W0 σ D u w σ1 D1 u1 w1 fs :=
  ⟨h.sit, h.up, h.fresh, h.made, h.turned, fun e he => h.evs e (hf e he)⟩
/-- What two related trees come to. -/
def RunOut {α β : Type} (T : Tables) (W0 : World) (σ : Nat → Nat) (D : Nat → Prop) (R : (Nat → Nat) → (Nat → Prop) → α → β → Prop) (u w : World) : Result α → Result β × Array Event → Prop
  | .ok a u1, (.ok b w1, es) => ∃ σ1 D1, Moved T W0 σ D u w σ1 D1 u1 w1 es ∧ R σ1 D1 a b
  | .halt (.panic v) u1, (.halt (.panic v') w1, es) => ∃ σ1 D1, Moved T W0 σ D u w σ1 D1 u1 w1 es ∧ VR σ1 D1 v v'
  | .halt h _, _ => badHalt h
  | _, _ => False
/-- The lone tape tells what the crowd's tells. -/
def Sync (u w : World) : Prop := ∀ i, u.tape (u.drawn + i) = w.tape (w.drawn + i)
theorem run_ex {α β : Type} {P' P : Program} (hP' : P'.toTables = T) (hP : P.toTables = T) {σ : Nat → Nat} {D : Nat → Prop} {u w : World} (h : Sit σ D T W0 u w) (hy : Sync u w) {s : Sem α} {s' : Sem β} {R : (Nat → Nat) → (Nat → Prop) → α → β → Prop}
    (hs : ∀ σ1 D1, Up σ D σ1 D1 → Inj σ1 D1 → Glob σ1 D1 T → SRel σ1 D1 P' P (R σ1 D1) s s') : RunOut T W0 σ D R u w (s.runT P' u #[]).1 (s'.runT P w #[]) := by
  have hg := runT_grows P s' w #[]
  have hgu := runT_grows P' s u #[]
  generalize hk : (resW (s'.runT P w #[]).1).heap.size - w.heap.size = k
  have hw1 : (resW (s'.runT P w #[]).1).heap.size = w.heap.size + k := by have := hg.size; omega
  have hrel := (hs _ _ (h.up k) (h.inj_ex k) (h.glob_ex k)).run (W0 := W0) (hP'.trans hP.symm) (h.inj_ex k) u w #[] #[] (h.wr_ex k) (fun i _ => hy i) (fun i hi => ⟨.inr ⟨by omega, by omega⟩, by unfold exσ; rw [if_neg (by omega)]; omega⟩)
  have fin : ∀ {u1 w1 : World} {es : Array Event}, WR (exσ σ u.heap.size w.heap.size) (exD D u.heap.size k) W0 u1 w1 → Turned (exσ σ u.heap.size w.heap.size) (exD D u.heap.size k) u w u1 w1 → w1.heap.size = w.heap.size + k → (∃ l : Array Event, es = #[] ++ l ∧ ∀ e ∈ l, EvOk (exσ σ u.heap.size w.heap.size) (exD D u.heap.size k) e) →
      Moved T W0 σ D u w (exσ σ u.heap.size w.heap.size) (exD D u.heap.size k) u1 w1 es := by
    intro u1 w1 es h1 h2 h3 ⟨l, h4, h5⟩
    have h6 := h2.size
    have h7 := h.gu
    have h8 := h.gw
    refine ⟨⟨h1, h.inj_ex k, h.glob_ex k, fun r hr => ?_, by omega, by omega⟩, h.up k, fun r hr => ?_, fun i hi => ⟨.inr ⟨by omega, by omega⟩, by unfold exσ; rw [if_neg (by omega)]; omega⟩, h2, fun e he => h5 e (by simpa [h4] using he)⟩
    · rcases hr with hr | ⟨_, hr⟩
      · have := h.bound r hr; omega
      · omega
    · rcases hr with hr | ⟨hr, _⟩
      · exact .inl hr
      · exact .inr ⟨hr, by unfold exσ; rw [if_neg (by omega)]⟩
  revert hrel hw1
  rcases s.runT P' u #[] with ⟨r, es0⟩
  rcases s'.runT P w #[] with ⟨r', es⟩
  dsimp only
  intro hw1 hrel
  rcases r with ⟨a, u1⟩ | ⟨h0, u1⟩
  · rcases r' with ⟨b, w1⟩ | ⟨h1, w1⟩
    · obtain ⟨h1, h2, h3, h4⟩ := hrel
      exact ⟨_, _, fin h2 h3 hw1 h4, h1⟩
    · exact hrel.elim
  · cases h0 <;> first | exact hrel | skip
    rcases r' with ⟨b, w1⟩ | ⟨h1, w1⟩
    · exact hrel.elim
    · cases h1 <;> first | exact hrel.elim | skip
      obtain ⟨h1, h2, h3, h4⟩ := hrel
      exact ⟨_, _, fin h2 h3 hw1 h4, h1⟩
theorem run_tape {α β : Type} {P' P : Program} (hP' : P'.toTables = T) (hP : P.toTables = T) {σ : Nat → Nat} {D : Nat → Prop} {u w : World} (h : Sit σ D T W0 u w) (hy : Sync u w) {s : Sem α} {s' : Sem β} {R : (Nat → Nat) → (Nat → Prop) → α → β → Prop}
    (hs : ∀ σ1 D1, Up σ D σ1 D1 → Inj σ1 D1 → Glob σ1 D1 T → SRel σ1 D1 P' P (R σ1 D1) s s') {r : Result α} {es : Array Event} (hr : s.runT P' u #[] = (r, es)) : ∀ τ, Agree τ u.tape u.drawn (resW r).drawn → s.runT P' (tp u τ) #[] = (tpR τ r, es) := by
  intro τ hτ
  have hg := runT_grows P s' w #[]
  generalize hk : (resW (s'.runT P w #[]).1).heap.size - w.heap.size = k
  have hw1 : (resW (s'.runT P w #[]).1).heap.size = w.heap.size + k := by have := hg.size; omega
  have := (hs _ _ (h.up k) (h.inj_ex k) (h.glob_ex k)).tape (W0 := W0) (hP'.trans hP.symm) (h.inj_ex k) u w #[] #[] (h.wr_ex k) (fun i _ => hy i) (fun i hi => ⟨.inr ⟨by omega, by omega⟩, by unfold exσ; rw [if_neg (by omega)]; omega⟩) τ (by rw [hr]; exact hτ)
  rw [hr] at this
  exact this
end
end Go.Proofs.Ytgfgoflhmikalaa.par

namespace Go.Proofs.Ytgfgoflhmikalaa.par
open Go Go.Conc
set_option linter.unusedVariables false
set_option linter.unusedSimpArgs false
section
variable {σ : Nat → Nat} {D : Nat → Prop} {T : Tables} {Sp : FuncId → Prop} {F' F : Array Func}
theorem undef_self : VR σ D undef undef := .undef _ rfl
theorem getD_rel {c c' : Array Value} (h : VsR σ D c c') (i : Nat) : VR σ D (c.getD i undef) (c'.getD i undef) := by
  simp only [Array.getD_eq_getD_getElem?]
  rcases hx : c[i]? with _ | x
  · have : c'[i]? = none := by
      rw [Array.getElem?_eq_none_iff] at hx ⊢
      rw [← h.1]; exact hx
    rw [this]
    exact undef_self
  · obtain ⟨y, hy, hxy⟩ := h.get hx
    rw [hy]
    exact hxy
theorem eval_rel {fr' fr : Frame} (h : VsR σ D fr'.tmps fr.tmps) : RhoR σ D fr'.eval fr.eval := by
  refine ⟨fun x hx => ?_, fun f => ⟨rfl, rfl⟩⟩
  cases x with
  | tmp t => exact getD_rel h t
  | const v => exact plain_self hx
  | global g => cases hx
  | func f => exact .func f rfl (fun i x y hx => by simp at hx) rfl (fun i x y hx => by simp at hx) (by simpa [okOpd] using hx)
theorem bool_rel {v v' : Value} (h : VR σ D v v') (b : Bool) : v = .bool b ↔ v' = .bool b := by
  cases h <;> simp
  rename_i hv
  intro e
  subst e
  cases hv
theorem yielded_rel {c c' : Array Value} (h : VsR σ D c c') (ops : Array Oper) (j : Nat) : yielded ops c j = yielded ops c' j := by
  unfold yielded
  rcases (ops[j]?).bind (·.dst) with _ | d
  · rfl
  · simp only [Option.bind_some]
    rcases hx : c[d]? with _ | x
    · have : c'[d]? = none := by
        rw [Array.getElem?_eq_none_iff] at hx ⊢
        rw [← h.1]; exact hx
      rw [this]
    · obtain ⟨y, hy, hxy⟩ := h.get hx
      rw [hy]
      have hb := bool_rel hxy
      cases x <;> cases y <;> first | rfl | (rename_i p q; have := (hb p).1 rfl; cases this; rfl) | (rename_i p _; have := (hb p).1 rfl; cases this) | (rename_i p _ _; have := (hb p).1 rfl; cases this) | (rename_i p _ _ _; have := (hb p).1 rfl; cases this) | (rename_i p; have := (hb p).1 rfl; cases this) | (rename_i q; have := (hb q).2 rfl; cases this) | skip
theorem finish_rel {fr' fr : Frame} (h : FrR σ D T Sp F' F fr' fr) {v v' : Value} (hv : VR σ D v v') : FrR σ D T Sp F' F (fr'.finish v) (fr.finish v') := by
  obtain ⟨fn', tmps', todo', defers', mode', kind', round'⟩ := fr'
  obtain ⟨fn, tmps, todo, defers, mode, kind, round⟩ := fr
  obtain ⟨h1, h2, h3, h4, h5, h6, h7, h8, h9, h10⟩ := h
  dsimp only at h1 h2 h3 h4 h5 h6 h7 h8 h9 h10
  cases h3 with
  | nil => exact ⟨h1, h2, .nil, h4, h5, h6, h7, h8, h9, h10⟩
  | @cons a b l m hab hlm =>
    cases hab with
    | code hc => exact ⟨h1, h2, .cons (.code hc) hlm, h4, h5, h6, h7, h8, h9, h10⟩
    | inBlock id => exact ⟨h1, h2, .cons (.inBlock id) hlm, h4, h5, h6, h7, h8, h9, h10⟩
    | inLoop hc => exact ⟨h1, h2, .cons (.inLoop hc) hlm, h4, h5, h6, h7, h8, h9, h10⟩
    | inScope hc => exact ⟨h1, h2, .cons (.inScope hc) hlm, h4, h5, h6, h7, h8, h9, h10⟩
    | @inRegion ops hops rest =>
      cases rest with
      | nil => exact ⟨h1, h2, .cons (.inRegion hops []) hlm, h4, h5, h6, h7, h8, h9, h10⟩
      | cons i rest =>
        refine ⟨h1, ?_, .cons (.inRegion hops rest) hlm, h4, h5, h6, h7, h8, h9, h10⟩
        show VsR σ D (match (ops[i]?).bind (·.dst) with | some d => tmps'.setIfInBounds d v | none => tmps') (match (ops[i]?).bind (·.dst) with | some d => tmps.setIfInBounds d v' | none => tmps)
        cases (ops[i]?).bind (·.dst) with
        | none => exact h2
        | some d => exact h2.set hv
theorem raise_rel {fr' fr : Frame} (h : FrR σ D T Sp F' F fr' fr) {c c' : List PanicEntry} (hc : LR (PeR σ D) c c') : FrR σ D T Sp F' F (fr'.raise c) (fr.raise c') := by
  obtain ⟨fn', tmps', todo', defers', mode', kind', round'⟩ := fr'
  obtain ⟨fn, tmps, todo, defers, mode, kind, round⟩ := fr
  obtain ⟨h1, h2, h3, h4, h5, h6, h7, h8, h9, h10⟩ := h
  dsimp only at h1 h2 h3 h4 h5 h6 h7 h8 h9 h10
  cases h5 with
  | run => exact ⟨h1, h2, h3, h4, .panicking hc, h6, h7, h8, h9, h10⟩
  | returning => exact ⟨h1, h2, h3, h4, .panicking hc, h6, h7, h8, h9, h10⟩
  | panicking hk => exact ⟨h1, h2, h3, h4, .panicking (hc.append hk), h6, h7, h8, h9, h10⟩
theorem enter_rel (hB : BodR T Sp F' F) {f : FuncId} (hk : Both F' F f) (hs : ¬ Sp f) {a a' : Array Value} (ha : VsR σ D a a') {kind : CallKind} (hkd : kind = .normal ∨ kind = .deferred) {P' P : Program} (e1 : P'.funcs = F') (e2 : P.funcs = F) :
    FrR σ D T Sp F' F (Frame.enter P' f a kind) (Frame.enter P f a' kind) := by
  obtain ⟨g', g, c', c, hg', hg, hc', hc⟩ := hk
  obtain ⟨hcr, hn, hr⟩ := hB.body f g' g c' c hs hg' hg hc' hc
  unfold Frame.enter
  rw [e1, e2, hg', hg]
  dsimp only [Option.map_some, Option.bind_some, Option.getD_some]
  rw [hc', hc, hn, ha.1]
  refine ⟨rfl, VsR.append ha (atoms_self (fun x hx => ?_)), .cons (.code hcr) .nil, .nil, .run, rfl, hkd, rfl, rfl, ⟨g', g, hg', hg, hr⟩⟩
  obtain ⟨_, rfl⟩ := Array.mem_replicate.1 hx
  rfl
theorem exitTo_rel (id : Nat) {k k' : List Item} (h : LR (ItemR T) k k') : (exitTo id k = none ∧ exitTo id k' = none) ∨ ∃ r r', exitTo id k = some r ∧ exitTo id k' = some r' ∧ LR (ItemR T) r r' := by
  induction h with
  | nil => exact .inl ⟨rfl, rfl⟩
  | @cons a b l m hab hlm ih =>
    cases hab with
    | inBlock id' =>
      unfold exitTo
      by_cases e : (id' == id) = true
      · rw [if_pos e, if_pos e]; exact .inr ⟨_, _, rfl, rfl, hlm⟩
      · rw [if_neg e, if_neg e]; exact ih
    | code hc => exact ih
    | inLoop hc => exact ih
    | inScope hc => exact ih
    | inRegion hops t => exact ih
end
end Go.Proofs.Ytgfgoflhmikalaa.par
