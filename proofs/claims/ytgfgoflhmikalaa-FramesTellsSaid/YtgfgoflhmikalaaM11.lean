/- Part 11 of what the proofs stand on: lemmas on worlds, on goroutines, contracts of functions. No conditions. -/
import Derived.Test.YtgfgoflhmikalaaM10
import Derived.Conc.EventLaws
namespace Go.Proofs.Ytgfgoflhmikalaa.par
open Go Go.Conc
set_option linter.unusedVariables false
set_option linter.unusedSimpArgs false
section
variable {P : Program} {tl : List Frame} {R : FuncId → Value → World → Prop} {fr fr2 : Frame} {cs cs2 : List Frame} {u u2 : World}
theorem not_end (h : fr.mode = .run) : ¬ AtEndL fr cs := fun x => x.2.1 h
theorem desc_go (hn : ¬ AtEndL fr cs) (hd : u.drawn ≤ u2.drawn) {es : Array Event} (h : ∀ τ, stepG P true (G fr (cs ++ tl)) (tp u τ) = .go (G fr2 (cs2 ++ tl)) (tp u2 τ) es) : Desc P tl (fr2, cs2, u2) (fr, cs, u) := ⟨hn, u.tape, hd, es, fun τ' _ => h τ'⟩
/-- A step that is known. -/
theorem LT.go (hl : LT P tl R fr cs u) (hn : ¬ AtEndL fr cs) (hd : u.drawn ≤ u2.drawn) {es : Array Event} (h : ∀ τ, stepG P true (G fr (cs ++ tl)) (tp u τ) = .go (G fr2 (cs2 ++ tl)) (tp u2 τ) es) : LT P tl R fr2 cs2 u2 :=
  LT.next (s := (fr, cs, u)) (s2 := (fr2, cs2, u2)) hl (desc_go hn hd h)
/-- It does not end otherwise. -/
theorem LT.no (hl : LT P tl R fr cs u) (hn : ¬ AtEndL fr cs) (h : ∀ τ, ∃ o w es, stepG P true (G fr (cs ++ tl)) (tp u τ) = .ended o w es) : False := by
  cases hl with
  | stop hl hr => exact hn ⟨rfl, by rw [hl.1]; exact FrameMode.noConfusion, hl.2.1⟩
  | step _ f c v hg _ =>
    obtain ⟨_, es, h1⟩ := hg u.tape
    obtain ⟨o, w, es2, h2⟩ := h u.tape
    rw [h1 u.tape (fun _ _ _ => rfl)] at h2
    cases h2
/-- What is come to in some steps. -/
structure Come (P : Program) (tl : List Frame) (R : FuncId → Value → World → Prop) (s0 : LS) (fr : Frame) (cs : List Frame) (u : World) : Prop where
  lt : LT P tl R fr cs u
  desc : (fr, cs, u) = s0 ∨ Relation.TransGen (Desc P tl) (fr, cs, u) s0
theorem Come.go {s0 : LS} (h : Come P tl R s0 fr cs u) (hn : fr.mode = .run) (hd : u.drawn ≤ u2.drawn) {es : Array Event} (hs : ∀ τ, stepG P true (G fr (cs ++ tl)) (tp u τ) = .go (G fr2 (cs2 ++ tl)) (tp u2 τ) es) : Come P tl R s0 fr2 cs2 u2 :=
  ⟨h.lt.go (not_end hn) hd hs, .inr (h.desc.elim (fun e => e ▸ .single (desc_go (not_end hn) hd hs)) fun x => .trans (.single (desc_go (not_end hn) hd hs)) x)⟩
theorem Come.no {s0 : LS} (h : Come P tl R s0 fr cs u) (hn : fr.mode = .run) (hs : ∀ τ, ∃ o w es, stepG P true (G fr (cs ++ tl)) (tp u τ) = .ended o w es) : False := h.lt.no (not_end hn) hs
end
section
variable {P : Program} {tl : List Frame} {R : FuncId → Value → World → Prop} {b : Frame} {a : Act} {k : List Item} {cs : List Frame} {u : World} {s0 : LS}
theorem come_seq {x y : Code} (h : Come P tl R s0 (b.at a (.code (.seq x y) :: k)) cs u) : Come P tl R s0 (b.at a (.code x :: .code y :: k)) cs u := h.go rfl (Nat.le_refl _) fun _ => stepG_seq
theorem come_skip (h : Come P tl R s0 (b.at a (.code .skip :: k)) cs u) : Come P tl R s0 (b.at a k) cs u := h.go rfl (Nat.le_refl _) fun _ => stepG_skip
theorem come_region {id : Nat} {ops : Array Oper} (h : Come P tl R s0 (b.at a (.code (.region id ops false) :: k)) cs u) : Come P tl R s0 (b.at a (.inRegion ops (List.range ops.size) :: k)) cs u := h.go rfl (Nat.le_refl _) fun _ => stepG_region
theorem come_regend {ops : Array Oper} (h : Come P tl R s0 (b.at a (.inRegion ops [] :: k)) cs u) : Come P tl R s0 (b.at a k) cs u := h.go rfl (Nat.le_refl _) fun _ => stepG_region_end
theorem come_cond {c : Operand} {x y : Code} {t : Bool} (hc : a.eval c = .bool t) (h : Come P tl R s0 (b.at a (.code (.cond c x y) :: k)) cs u) : Come P tl R s0 (b.at a (.code (if t then x else y) :: k)) cs u := h.go rfl (Nat.le_refl _) fun _ => stepG_cond hc
theorem come_ret (h : Come P tl R s0 (b.at a (.code .ret :: k)) cs u) : Come P tl R s0 { b.at a (.code .ret :: k) with mode := .returning } cs u := h.go rfl (Nat.le_refl _) fun _ => stepG_ret'
theorem come_refuse {why : String} (h : Come P tl R s0 (b.at a (.code (.refuse why) :: k)) cs u) : False := h.no rfl fun τ => by
  refine ⟨.unsupported (Unsupported.elab why) (Frame.pos P (b.at a (.code (.refuse why) :: k))), tp u τ, #[], ?_⟩
  rw [run_step rfl]
  simp [stepG.exec, Frame.at]
/-- An operation that yields this. -/
theorem come_value {ops : Array Oper} {i : Nat} {rest : List Nat} {o : Oper} {v : Value} {u2 : World} (ho : ops[i]? = some o) (hw : Region.wanted o (yielded ops a.tmps) = true) (hk : b.kind ≠ .early) (hd : u.drawn ≤ u2.drawn) {es : Array Event}
    (hr : ∀ τ, (execOp a.eval o).run P (tp u τ) = .ok (.value v) (tp u2 τ)) (he : ∀ τ, listed P b.fn a o (tp u τ) = es) (h : Come P tl R s0 (b.at a (.inRegion ops (i :: rest) :: k)) cs u) : Come P tl R s0 (b.at (a.put o.dst v) (.inRegion ops rest :: k)) cs u2 :=
  h.go rfl hd fun τ => by rw [stepG_value ho hw hk (hr τ), he τ]
theorem come_none {ops : Array Oper} {i : Nat} {rest : List Nat} {o : Oper} {u2 : World} (ho : ops[i]? = some o) (hw : Region.wanted o (yielded ops a.tmps) = true) (hk : b.kind ≠ .early) (hd : u.drawn ≤ u2.drawn) {es : Array Event}
    (hr : ∀ τ, (execOp a.eval o).run P (tp u τ) = .ok .skip (tp u2 τ)) (he : ∀ τ, listed P b.fn a o (tp u τ) = es) (h : Come P tl R s0 (b.at a (.inRegion ops (i :: rest) :: k)) cs u) : Come P tl R s0 (b.at (a.put o.dst undef) (.inRegion ops rest :: k)) cs u2 :=
  h.go rfl hd fun τ => by rw [stepG_none ho hw hk (hr τ), he τ]
/-- One that halts. -/
theorem come_halt {ops : Array Oper} {i : Nat} {rest : List Nat} {o : Oper} (ho : ops[i]? = some o) (hw : Region.wanted o (yielded ops a.tmps) = true) (hk : b.kind ≠ .early)
    (hr : ∀ τ, ∃ h w es, badHalt h ∧ (execOp a.eval o).runT P (tp u τ) #[] = (.halt h w, es)) (h : Come P tl R s0 (b.at a (.inRegion ops (i :: rest) :: k)) cs u) : False := h.no rfl fun τ => by
  obtain ⟨hh, w, es, h1, h2⟩ := hr τ
  rw [stepG_oper ho hw]
  obtain ⟨o', es', h3⟩ := ap_bad (fr := b.at a (.inRegion ops (i :: rest) :: k)) (cs := cs ++ tl) hk h1 h2
  exact ⟨o', w, es', h3⟩
end
end Go.Proofs.Ytgfgoflhmikalaa.par

namespace Go.Proofs.Ytgfgoflhmikalaa.par
open Go Go.Conc
set_option linter.unusedVariables false
set_option linter.unusedSimpArgs false
theorem prog_eta (P : Program) : P = ⟨P.toTables, P.funcs⟩ := rfl
theorem tab_underlying (T : Tables) (F F' : Array Func) (t : TypeId) : (⟨T, F⟩ : Program).underlying t = (⟨T, F'⟩ : Program).underlying t := rfl
theorem tab_runUnderlying (T : Tables) (F F' : Array Func) (t : TypeId) (w : World) : Sem.run ⟨T, F⟩ (underlying t) w = Sem.run ⟨T, F'⟩ (underlying t) w := by
  cases h : (⟨T, F⟩ : Program).underlying t with
  | none => simp [underlying, h, show (⟨T, F'⟩ : Program).underlying t = none from h]
  | some d => simp [underlying, h, show (⟨T, F'⟩ : Program).underlying t = some d from h]
theorem tab_sizeOf (T : Tables) (F F' : Array Func) (t : TypeId) (w : World) : Sem.run ⟨T, F⟩ (sizeOf t) w = Sem.run ⟨T, F'⟩ (sizeOf t) w := by
  cases h : (⟨T, F⟩ : Program).info? t with
  | none => simp [sizeOf, typeInfo, h, show (⟨T, F'⟩ : Program).info? t = none from h]
  | some d => simp [sizeOf, typeInfo, h, show (⟨T, F'⟩ : Program).info? t = some d from h]
theorem tab_isAgg (T : Tables) (F F' : Array Func) (t : TypeId) (w : World) : Sem.run ⟨T, F⟩ (isAgg t) w = Sem.run ⟨T, F'⟩ (isAgg t) w := by
  cases h : (⟨T, F⟩ : Program).underlying t with
  | none => simp [isAgg, underlying, h, show (⟨T, F'⟩ : Program).underlying t = none from h]
  | some d =>
    simp [isAgg, underlying, h, show (⟨T, F'⟩ : Program).underlying t = some d from h]
    cases d <;> rfl
theorem tab_zero (T : Tables) (F F' : Array Func) (t : TypeId) (w : World) : Sem.run ⟨T, F⟩ (zeroValue t) w = Sem.run ⟨T, F'⟩ (zeroValue t) w := by
  cases h : (⟨T, F⟩ : Program).info? t with
  | none => simp [zeroValue, typeInfo, h, show (⟨T, F'⟩ : Program).info? t = none from h]
  | some d =>
    simp [zeroValue, typeInfo, h, show (⟨T, F'⟩ : Program).info? t = some d from h]
    cases d.zero <;> rfl
@[go_sem] theorem lon_underlying (H : Code) (t : TypeId) : (loneP H).underlying t = (Try.prog).underlying t := tab_underlying _ _ _ t
@[go_sem] theorem lon_runUnderlying (H : Code) (t : TypeId) (w : World) : Sem.run (loneP H) (underlying t) w = Sem.run Try.prog (underlying t) w := tab_runUnderlying _ _ _ t w
@[go_sem] theorem lon_sizeOf (H : Code) (t : TypeId) (w : World) : Sem.run (loneP H) (sizeOf t) w = Sem.run Try.prog (sizeOf t) w := tab_sizeOf _ _ _ t w
@[go_sem] theorem lon_isAgg (H : Code) (t : TypeId) (w : World) : Sem.run (loneP H) (isAgg t) w = Sem.run Try.prog (isAgg t) w := tab_isAgg _ _ _ t w
@[go_sem] theorem lon_zero (H : Code) (t : TypeId) (w : World) : Sem.run (loneP H) (zeroValue t) w = Sem.run Try.prog (zeroValue t) w := tab_zero _ _ _ t w
theorem eqg_num (t : TypeId) (X Y : Operand) (v : Value) (k : IntKind) (n : Int) : eqGuard .eql t X Y v (.int k n) = pure () := by cases v <;> rfl
def isInt : Value → Bool
  | .int .. => true
  | _ => false
theorem bin_num (t : TypeId) (v : Value) (hv : isInt v = false) (k : IntKind) (n : Int) : binOp .eql t v (.int k n) = (do pure (.bool (← Op.equal t v (.int k n)))) := by
  cases v <;> first | (cases hv; done) | rfl
theorem eqi_num {P : Program} {t : TypeId} (ht : P.underlying t = some (.int .i32)) (d : Nat) (v : Value) (hv : isInt v = false) {x : Int} (hx : x = 0 ∨ x = 1) :
    (∃ h, badHalt h ∧ ∀ w, (Op.equalIn (d + 1) t v (.int .i32 x)).run P w = .halt h w) ∨ ∀ w, (Op.equalIn (d + 1) t v (.int .i32 x)).run P w = .ok false w ∧ (Op.equalIn (d + 1) t v (.int .i32 x)).events P w #[] = #[] := by
  unfold Op.equalIn
  have hu := run_underlying (P := P) ht
  cases v
  case pointer p =>
    cases p with
    | none => exact .inl ⟨.unsupported .addressObserved, trivial, fun w => by simp [hu]⟩
    | some a =>
      rcases hx with rfl | rfl
      · refine .inr fun w => ⟨by simp [hu], ?_⟩
        simp [go_sem, hu]
      · exact .inl ⟨.unsupported .addressObserved, trivial, fun w => by simp [hu]⟩
  case int => cases hv
  all_goals first
    | exact .inl ⟨.stuck _, trivial, fun w => by simp [hu]; rfl⟩
section
variable {H : Code} {tl : List Frame} {R : FuncId → Value → World → Prop} {b : Frame} {T : Array Value} {cs : List Frame} {u : World} {s0 : LS} {x y : Int}
theorem lon_info (H : Code) (t : TypeId) : (loneP H).info? t = (Try.prog).info? t := rfl
theorem mux_in (h : Come (loneP H) tl R s0 (b.at ⟨T, []⟩ [.code (muxBody x y)]) cs u) : Come (loneP H) tl R s0 (b.at ⟨T, []⟩ [.inRegion (mops0 x) [0, 1, 2], .code (mrest1 y)]) cs u := come_region (come_seq h)
theorem mux_field {v : Value} (hk : b.kind ≠ .early) (h0 : T.getD 0 undef = v) (h : Come (loneP H) tl R s0 (b.at ⟨T, []⟩ [.code (muxBody x y)]) cs u) : ∃ ad, v = .pointer (some ad) := by
  have h1 := mux_in h
  have hx : T[0]?.getD undef = v := by rw [← h0]; simp
  cases v
  case pointer p =>
    cases p with
    | some ad => exact ⟨ad, rfl⟩
    | none =>
      refine (come_halt (o := op0 (some 1) (.fieldAddr 101 (.tmp 0) 0) 0) rfl rfl hk (fun τ => ?_) h1).elim
      simp [execOp, op0, Act.eval, hx, Instr.fieldAt, Instr.sureAddr, go_sem]
      trivial
  all_goals
    refine (come_halt (o := op0 (some 1) (.fieldAddr 101 (.tmp 0) 0) 0) rfl rfl hk (fun τ => ?_) h1).elim
    simp [execOp, op0, Act.eval, hx, Instr.fieldAt, Instr.sureAddr, go_sem]
    trivial
/-- A new mutex. -/
abbrev muxO : Obj := .cells #[.int .i32 0, .int .u32 0] 101
/-- What a block that may be named is. -/
def Tame (u : World) (r : Nat) : Prop := (∃ c e f, u.heap[r]? = some (.cells c e f)) ∨ (∃ a t, u.heap[r]? = some (.view a t)) ∨ ∃ a l, u.heap[r]? = some (.number a l)
theorem mux_load {ad : Addr} (hk : b.kind ≠ .early) (hT : 6 ≤ T.size) (h0 : T.getD 0 undef = .pointer (some ad)) (hr : Tame u ad.block) (h : Come (loneP H) tl R s0 (b.at ⟨T, []⟩ [.code (muxBody x y)]) cs u) :
    ∃ v, (u.cell? ad = some v ∨ (u.cell? ad = none ∧ ∃ a t, u.heap[ad.block]? = some (.view a t))) ∧ Come (loneP H) tl R s0 (b.at ⟨(T.setIfInBounds 1 (.pointer (some ad))).setIfInBounds 2 v, []⟩ [.inRegion (mops0 x) [2], .code (mrest1 y)]) cs u := by
  have h1 := mux_in h
  have hx : T[0]?.getD undef = .pointer (some ad) := by rw [← h0]; simp
  have ha : ad.add 0 = ad := by unfold Addr.add; simp
  have h2 : Come (loneP H) tl R s0 (b.at ⟨T.setIfInBounds 1 (.pointer (some ad)), []⟩ [.inRegion (mops0 x) [1, 2], .code (mrest1 y)]) cs u :=
    come_value (P := (loneP H)) (u := u) (a := ⟨T, []⟩) (o := op0 (some 1) (.fieldAddr 101 (.tmp 0) 0) 0) (v := .pointer (some ad)) (es := #[]) rfl rfl hk (Nat.le_refl _) (fun τ => by
      simp [execOp, op0, Act.eval, hx, Instr.fieldAt, Instr.sureAddr, go_sem, ha]) (fun τ => by
      unfold listed
      simp [execOp, op0, Act.eval, hx, Instr.fieldAt, Instr.sureAddr, go_sem, ha, seen_none]) h1
  have hx1 : (T.setIfInBounds 1 (.pointer (some ad)))[1]?.getD undef = .pointer (some ad) := by simp [Array.getElem?_setIfInBounds, show 1 < T.size by omega]
  have hcell : ∀ τ, (tp u τ).cell? ad = u.cell? ad := fun _ => rfl
  cases hc : u.cell? ad with
  | some v =>
    refine ⟨v, .inl rfl, ?_⟩
    refine come_value (P := (loneP H)) (u := u) (a := ⟨T.setIfInBounds 1 (.pointer (some ad)), []⟩) (o := op0 (some 2) (.load 21 (.tmp 1)) 21) (v := v) (es := seen (loneP H) b.fn #[⟨.cell ad, false, false⟩]) rfl rfl hk (Nat.le_refl _) (fun τ => ?_) (fun τ => ?_) h2
    · simp [execOp, op0, Act.eval, hx1, Instr.loadAt, Instr.sureAddr, go_sem, hcell, hc]
    · unfold listed
      simp [execOp, op0, Act.eval, hx1, Instr.loadAt, Instr.sureAddr, go_sem, hcell, hc]
      rfl
  | none =>
    have hfar : ∀ τ, (tp u τ).farLoad (loneP H) ad (Mode.plain == Mode.atomic) = u.farLoad (loneP H) ad (Mode.plain == Mode.atomic) := fun τ => farLoad_tape _ _ _ _ τ
    cases hfl : u.farLoad (loneP H) ad (Mode.plain == Mode.atomic) with
    | error e =>
      have hbad : badHalt e := by
        unfold World.farLoad at hfl
        rcases hr with ⟨c, e', f, ho⟩ | ⟨a', t, ho⟩ | ⟨a', l, ho⟩
        · rw [ho] at hfl
          cases hfl
          simp [World.noCell, ho, badHalt]
        · rw [ho] at hfl
          dsimp only at hfl
          split at hfl
          · cases hfl
          · cases hfl; trivial
        · rw [ho] at hfl
          cases hfl
          simp [World.noCell, ho, badHalt]
      refine (come_halt (o := op0 (some 2) (.load 21 (.tmp 1)) 21) rfl rfl hk (fun τ => ?_) h2).elim
      simp [execOp, op0, Act.eval, hx1, Instr.loadAt, Instr.sureAddr, go_sem, hcell, hc, hfar, hfl]
      exact hbad
    | ok r =>
      have hv : ∃ a t, u.heap[ad.block]? = some (.view a t) := by
        unfold World.farLoad at hfl
        rcases hr with ⟨c, e', f, ho⟩ | ⟨a', t, ho⟩ | ⟨a', l, ho⟩
        · rw [ho] at hfl; cases hfl
        · exact ⟨a', t, ho⟩
        · rw [ho] at hfl; cases hfl
      refine ⟨r.1, .inr ⟨rfl, hv⟩, ?_⟩
      refine come_value (P := (loneP H)) (u := u) (a := ⟨T.setIfInBounds 1 (.pointer (some ad)), []⟩) (o := op0 (some 2) (.load 21 (.tmp 1)) 21) (v := r.1) (es := listed (loneP H) b.fn ⟨T.setIfInBounds 1 (.pointer (some ad)), []⟩ (op0 (some 2) (.load 21 (.tmp 1)) 21) u) rfl rfl hk (Nat.le_refl _) (fun τ => ?_) (fun τ => ?_) h2
      · simp [execOp, op0, Act.eval, hx1, Instr.loadAt, Instr.sureAddr, go_sem, hcell, hc, hfar, hfl]
      · unfold listed
        simp [execOp, op0, Act.eval, hx1, Instr.loadAt, Instr.sureAddr, go_sem, hcell, hc, hfar, hfl]
theorem mux_cmp {v : Value} (hx : x = 0 ∨ x = 1) (hk : b.kind ≠ .early) (hT : 6 ≤ T.size) (h2 : T[2]?.getD undef = v) (h : Come (loneP H) tl R s0 (b.at ⟨T, []⟩ [.inRegion (mops0 x) [2], .code (mrest1 y)]) cs u) :
    v = .int .i32 x ∧ Come (loneP H) tl R s0 (b.at ⟨T.setIfInBounds 3 (.bool true), []⟩ [.code (mrest2 y)]) cs u := by
  have hx3 : ∀ t : Bool, (T.setIfInBounds 3 (.bool t))[3]?.getD undef = .bool t := fun t => by simp [Array.getElem?_setIfInBounds, show 3 < T.size by omega]
  have yields : ∀ t : Bool, (∀ τ, (execOp (Act.eval ⟨T, []⟩) (op0 (some 3) (.binOp .eql 21 (.tmp 2) (.const (.int .i32 x)) 21) 4)).run (loneP H) (tp u τ) = .ok (.value (.bool t)) (tp u τ)) → (∀ τ, (execOp (Act.eval ⟨T, []⟩) (op0 (some 3) (.binOp .eql 21 (.tmp 2) (.const (.int .i32 x)) 21) 4)).events (loneP H) (tp u τ) #[] = #[]) → t = true ∧ Come (loneP H) tl R s0 (b.at ⟨T.setIfInBounds 3 (.bool true), []⟩ [.code (mrest2 y)]) cs u := by
    intro t ht hte
    have h3 : Come (loneP H) tl R s0 (b.at ⟨T.setIfInBounds 3 (.bool t), []⟩ [.inRegion (mops0 x) [], .code (mrest1 y)]) cs u :=
      come_value (P := (loneP H)) (u := u) (a := ⟨T, []⟩) (o := op0 (some 3) (.binOp .eql 21 (.tmp 2) (.const (.int .i32 x)) 21) 4) (v := .bool t) (es := #[]) rfl rfl hk (Nat.le_refl _) ht (fun τ => by unfold listed; rw [hte τ, seen_none]) h
    have h4 := come_cond (c := .tmp 3) (t := t) (by simp [Act.eval, hx3]) (come_seq (come_regend h3))
    cases t with
    | true => exact ⟨rfl, come_skip h4⟩
    | false => exact (come_refuse h4).elim
  have hu : (loneP H).underlying 21 = some (.int .i32) := by rw [lon_underlying]; exact Try.underlying21
  by_cases hv : isInt v = true
  · cases v <;> first | (cases hv; done) | skip
    rename_i k n
    by_cases hk2 : k = .i32
    · subst hk2
      obtain ⟨h5, h6⟩ := yields (decide (n = x)) (fun τ => by
        simp [execOp, op0, Act.eval, h2, go_sem]
        by_cases hh : n = x <;> simp [hh]) (fun τ => by simp [execOp, op0, Act.eval, h2, go_sem])
      exact ⟨by rw [of_decide_eq_true h5], h6⟩
    · refine (come_halt (o := op0 (some 3) (.binOp .eql 21 (.tmp 2) (.const (.int .i32 x)) 21) 4) rfl rfl hk (fun τ => ?_) h).elim
      simp [execOp, op0, Act.eval, h2, go_sem, hk2, binOp]
      trivial
  · have hv' : isInt v = false := by simpa using hv
    rcases eqi_num hu 9999 v hv' hx with ⟨e, hb, he⟩ | he
    · refine (come_halt (o := op0 (some 3) (.binOp .eql 21 (.tmp 2) (.const (.int .i32 x)) 21) 4) rfl rfl hk (fun τ => ?_) h).elim
      have h6 : (Op.equalIn 10000 21 v (.int .i32 x)).run (loneP H) (tp u τ) = .halt e (tp u τ) := he (tp u τ)
      simp [execOp, op0, Act.eval, h2, eqg_num, bin_num _ v hv', Op.equal, Op.maxDepth]
      exact ⟨e, hb, _, by rw [h6]; rfl⟩
    · obtain ⟨h5, h6⟩ := yields false (fun τ => by
        have h6 : (Op.equalIn 10000 21 v (.int .i32 x)).run (loneP H) (tp u τ) = .ok false (tp u τ) := (he (tp u τ)).1
        simp [execOp, op0, Act.eval, h2, eqg_num, bin_num _ v hv', Op.equal, Op.maxDepth]
        rw [h6]
        rfl) (fun τ => by
        have h6 : (Op.equalIn 10000 21 v (.int .i32 x)).events (loneP H) (tp u τ) #[] = #[] := (he (tp u τ)).2
        simp [execOp, op0, Act.eval, h2, eqg_num, bin_num _ v hv', Op.equal, Op.maxDepth]
        exact h6)
      cases h5
/-- A pointer to cells, and one to a new mutex. -/
theorem same_new {P : Program} {w : World} {ad q : Addr} (hq : w.heap[q.block]? = some muxO) (hne : ad.block ≠ q.block) {c : Array Value} {e : TypeId} {f : Nat × Nat} (hc : w.heap[ad.block]? = some (.cells c e f)) (hs : c.size ≠ 0) : (sameAddr ad q).run P w = .ok false w ∧ (sameAddr ad q).events P w #[] = #[] := by
  have hne' : (ad.block == q.block) = false := by simpa using hne
  have hfq : w.frozen? q = false := by simp [World.frozen?, hq]
  have hfq2 : ∀ n, w.frozen? ⟨q.block, n, none⟩ = false := fun n => by simp [World.frozen?, hq]
  have hsa : w.shape? ad.block = some (e, c.size) := by simp [World.shape?, hc]
  have hsq : w.shape? q.block = some (101, 2) := by simp [World.shape?, hq]
  obtain ⟨m, hm⟩ : ∃ m, c.size = m + 1 := ⟨c.size - 1, by omega⟩
  constructor
  · simp [sameAddr, hne', noView, viewAt, mayBeOne, stringish, hsa, hsq, hfq, hfq2, hm, go_sem]
  · simp [sameAddr, hne', noView, viewAt, mayBeOne, stringish, hsa, hsq, hfq, hfq2, hm, go_sem]
theorem same_view {P : Program} {w : World} {ad q : Addr} (hne : ad.block ≠ q.block) {a : Addr} {t : TypeId} (hc : w.heap[ad.block]? = some (.view a t)) : (sameAddr ad q).run P w = .halt (.unsupported (.unsafePointer "memory seen as another type")) w := by
  have hne' : (ad.block == q.block) = false := by simpa using hne
  have hfa : w.frozen? ad = false := by simp [World.frozen?, hc]
  have hsa : w.shape? ad.block = none := by simp [World.shape?, hc]
  have hg : (getObj ad.block).run P w = .ok (.view a t) w := by
    show Sem.run P (Sem.getObj ad.block _) w = _
    simp [Sem.run, hc]
  simp [sameAddr, hne', noView, viewAt, hsa, hfa, hc, hg, go_sem]
theorem eq_ptr (d : Nat) (a q : Addr) (w : World) : (Op.equalIn (d + 1) 144 (.pointer (some a)) (.pointer (some q))).run (loneP H) w = (sameAddr a q).run (loneP H) w ∧ (Op.equalIn (d + 1) 144 (.pointer (some a)) (.pointer (some q))).events (loneP H) w #[] = (sameAddr a q).events (loneP H) w #[] := by
  unfold Op.equalIn
  constructor
  · simp [go_sem]
  · simp [go_sem]
/-- To its end. -/
theorem mux_last {ad : Addr} {z : Int} (hk : b.kind ≠ .early) (hT : 6 ≤ T.size) (h1 : T[1]?.getD undef = .pointer (some ad)) (hl : u.cell? ad = some (.int .i32 x) ∨ (u.cell? ad = none ∧ ∃ a t, u.heap[ad.block]? = some (.view a t))) (h : Come (loneP H) tl R s0 (b.at ⟨T, []⟩ [.code (mrest2 y)]) cs u) :
    u.cell? ad = some (.int .i32 x) ∧ u.frozen? ad = false ∧ ∃ T', Come (loneP H) tl R s0 { b.at ⟨T', []⟩ [.code .ret] with mode := .returning } cs ((u.alloc muxO).setCell ad (.int .i32 y)) := by
  have h2 := come_region (come_seq h)
  have hb : ad.block < u.heap.size := by
    rcases hl with hl | ⟨_, a, t, hl⟩
    · unfold World.cell? at hl
      by_cases hlt : ad.block < u.heap.size
      · exact hlt
      · rw [Array.getElem?_eq_none (by omega)] at hl
        simp at hl
    · exact (Array.getElem?_eq_some_iff.1 hl).1
  have hold : (u.alloc muxO).heap[ad.block]? = u.heap[ad.block]? := by
    show (u.heap.push _)[ad.block]? = _
    rw [Array.getElem?_push, if_neg (by omega)]
  have hnew : (u.alloc muxO).heap[u.heap.size]? = some muxO := by
    show (u.heap.push _)[u.heap.size]? = _
    rw [Array.getElem?_push, if_pos rfl]
  have h3 : Come (loneP H) tl R s0 (b.at ⟨T.setIfInBounds 4 (.pointer (some ⟨u.heap.size, 0, none⟩)), []⟩ [.inRegion mops1 [1], .code (.seq (.region 2 (mops2 y) false) .ret)]) cs (u.alloc muxO) :=
    come_value (P := (loneP H)) (u := u) (a := ⟨T, []⟩) (o := op0 (some 4) (.alloc 101) 0) (v := .pointer (some ⟨u.heap.size, 0, none⟩)) (u2 := u.alloc muxO) (es := #[]) rfl rfl hk (show u.drawn ≤ (u.alloc muxO).drawn from Nat.le_refl _) (fun τ => by
      simp [execOp, op0, go_sem]
      exact ⟨rfl, rfl⟩) (fun τ => by
      unfold listed
      simp [execOp, op0, go_sem, seen_none]) h2
  have e1 : (T.setIfInBounds 4 (.pointer (some ⟨u.heap.size, 0, none⟩)))[1]?.getD undef = .pointer (some ad) := by rw [Array.getElem?_setIfInBounds_ne (by decide)]; exact h1
  have e4 : (T.setIfInBounds 4 (.pointer (some ⟨u.heap.size, 0, none⟩)))[4]?.getD undef = .pointer (some ⟨u.heap.size, 0, none⟩) := by simp [Array.getElem?_setIfInBounds, show 4 < T.size by omega]
  generalize T.setIfInBounds 4 (.pointer (some ⟨u.heap.size, 0, none⟩)) = T4 at h3 e1 e4
  have hne : ad.block ≠ (⟨u.heap.size, 0, none⟩ : Addr).block := by
    show ad.block ≠ u.heap.size
    omega
  rcases hl with hl | ⟨_, a, t, hv⟩
  · obtain ⟨c, e, f, ho, hcs⟩ : ∃ c e f, u.heap[ad.block]? = some (.cells c e f) ∧ c.size ≠ 0 := by
      unfold World.cell? at hl
      cases ho : u.heap[ad.block]? with
      | none => rw [ho] at hl; simp at hl
      | some o =>
        rw [ho] at hl
        cases o <;> first | (simp at hl; done) | skip
        rename_i c e f
        refine ⟨c, e, f, rfl, fun hz => ?_⟩
        simp at hl
        have := hl
        simp [Array.getElem?_eq_none (show c.size ≤ ad.off by omega)] at this
    have h4 : Come (loneP H) tl R s0 (b.at ⟨T4.setIfInBounds 5 (.bool false), []⟩ [.inRegion mops1 [], .code (.seq (.region 2 (mops2 y) false) .ret)]) cs (u.alloc muxO) :=
      come_value (P := (loneP H)) (u := u.alloc muxO) (a := ⟨T4, []⟩) (o := op0 (some 5) (.binOp .eql 144 (.tmp 1) (.tmp 4) 144) 4) (v := .bool false) (u2 := u.alloc muxO) (es := #[]) rfl rfl hk (Nat.le_refl _) (fun τ => by
        have h6 : (Op.equalIn 10000 144 (.pointer (some ad)) (.pointer (some ⟨u.heap.size, 0, none⟩))).run (loneP H) (tp (u.alloc muxO) τ) = .ok false (tp (u.alloc muxO) τ) := ((eq_ptr 9999 _ _ _).1).trans (same_new (w := tp (u.alloc muxO) τ) hnew hne (hold.trans ho) hcs).1
        simp [execOp, op0, Act.eval, e1, e4, go_sem, binOp, Op.equal, Op.maxDepth]
        rw [h6]
        rfl) (fun τ => by
        have h6 : (Op.equalIn 10000 144 (.pointer (some ad)) (.pointer (some ⟨u.heap.size, 0, none⟩))).events (loneP H) (tp (u.alloc muxO) τ) #[] = #[] := ((eq_ptr 9999 _ _ _).2).trans (same_new (w := tp (u.alloc muxO) τ) hnew hne (hold.trans ho) hcs).2
        unfold listed
        simp [execOp, op0, Act.eval, e1, e4, go_sem, binOp, Op.equal, Op.maxDepth]
        rw [h6, seen_none]) h3
    have h5 := come_region (come_seq (come_regend h4))
    have e1' : (T4.setIfInBounds 5 (.bool false))[1]?.getD undef = .pointer (some ad) := by rw [Array.getElem?_setIfInBounds_ne (by decide)]; exact e1
    generalize T4.setIfInBounds 5 (.bool false) = T5 at h5 e1'
    have hcell : ∀ τ, (tp (u.alloc muxO) τ).cell? ad = some (.int .i32 x) := fun τ => by
      rw [← hl]
      show (u.alloc muxO).cell? ad = u.cell? ad
      unfold World.cell?
      rw [hold]
    have hfr : ∀ τ, (tp (u.alloc muxO) τ).frozen? ad = u.frozen? ad := fun τ => by
      show (u.alloc muxO).frozen? ad = u.frozen? ad
      unfold World.frozen?
      rw [hold]
    cases hz : u.frozen? ad with
    | true =>
      refine (come_halt (o := op0 none (.store 21 (.tmp 1) (.const (.int .i32 y))) 0) rfl rfl hk (fun τ => ?_) h5).elim
      simp [execOp, op0, Act.eval, e1', Instr.storeAt, Instr.sureAddr, go_sem, hcell, hfr, hz]
      trivial
    | false =>
      refine ⟨hl, rfl, T5, ?_⟩
      have h7 : Come (loneP H) tl R s0 (b.at ⟨T5, []⟩ [.inRegion (mops2 y) [], .code .ret]) cs ((u.alloc muxO).setCell ad (.int .i32 y)) :=
        come_none (P := (loneP H)) (u := u.alloc muxO) (a := ⟨T5, []⟩) (o := op0 none (.store 21 (.tmp 1) (.const (.int .i32 y))) 0) (u2 := (u.alloc muxO).setCell ad (.int .i32 y)) (es := seen (loneP H) b.fn #[⟨.cell ad, true, false⟩]) rfl rfl hk (Nat.le_refl _) (fun τ => by
          simp [execOp, op0, Act.eval, e1', Instr.storeAt, Instr.sureAddr, go_sem, hcell, hfr, hz]
          first | rfl | (unfold World.setCell; dsimp only; split <;> rfl)) (fun τ => by
          unfold listed
          simp [execOp, op0, Act.eval, e1', Instr.storeAt, Instr.sureAddr, go_sem, storedEv, hcell, hfr, hz]
          first | done | rfl | trace_state) h5
      exact come_ret (come_regend h7)
  · refine (come_halt (o := op0 (some 5) (.binOp .eql 144 (.tmp 1) (.tmp 4) 144) 4) rfl rfl hk (fun τ => ?_) h3).elim
    have h6 : (Op.equalIn 10000 144 (.pointer (some ad)) (.pointer (some ⟨u.heap.size, 0, none⟩))).run (loneP H) (tp (u.alloc muxO) τ) = .halt (.unsupported (.unsafePointer "memory seen as another type")) (tp (u.alloc muxO) τ) := ((eq_ptr 9999 _ _ _).1).trans (same_view hne (hold.trans hv))
    simp [execOp, op0, Act.eval, e1, e4, go_sem, binOp, Op.equal, Op.maxDepth]
    exact ⟨.unsupported (.unsafePointer "memory seen as another type"), trivial, _, by rw [h6]; rfl⟩
/-- THE WHOLE BODY. -/
theorem mux_lone (hx : x = 0 ∨ x = 1) (hk : b.kind ≠ .early) (hT : 6 ≤ T.size) (hr : ∀ ad, T.getD 0 undef = .pointer (some ad) → Tame u ad.block) (h : Come (loneP H) tl R s0 (b.at ⟨T, []⟩ [.code (muxBody x y)]) cs u) :
    ∃ ad, T.getD 0 undef = .pointer (some ad) ∧ u.cell? ad = some (.int .i32 x) ∧ u.frozen? ad = false ∧ ∃ T', Come (loneP H) tl R s0 { b.at ⟨T', []⟩ [.code .ret] with mode := .returning } cs ((u.alloc muxO).setCell ad (.int .i32 y)) := by
  obtain ⟨ad, had⟩ := mux_field hk rfl h
  obtain ⟨v, hv, h1⟩ := mux_load hk hT had (hr ad had) h
  have e1 : ((T.setIfInBounds 1 (.pointer (some ad))).setIfInBounds 2 v)[1]?.getD undef = .pointer (some ad) := by
    rw [Array.getElem?_setIfInBounds_ne (by decide)]
    simp [Array.getElem?_setIfInBounds, show 1 < T.size by omega]
  have e2 : ((T.setIfInBounds 1 (.pointer (some ad))).setIfInBounds 2 v)[2]?.getD undef = v := by simp [Array.getElem?_setIfInBounds, show 2 < T.size by omega]
  have hs : 6 ≤ ((T.setIfInBounds 1 (.pointer (some ad))).setIfInBounds 2 v).size := by simpa using hT
  generalize (T.setIfInBounds 1 (.pointer (some ad))).setIfInBounds 2 v = T2 at h1 e1 e2 hs
  obtain ⟨rfl, h2⟩ := mux_cmp hx hk hs e2 h1
  obtain ⟨h3, h4, T', h5⟩ := mux_last (x := x) (z := 0) hk (T := T2.setIfInBounds 3 (.bool true)) (by simpa using hs) (by rw [Array.getElem?_setIfInBounds_ne (by decide)]; exact e1) hv h2
  exact ⟨ad, had, h3, h4, T', h5⟩
end
end Go.Proofs.Ytgfgoflhmikalaa.par

namespace Go.Proofs.Ytgfgoflhmikalaa.par
open Go Go.Conc
set_option linter.unusedVariables false
set_option linter.unusedSimpArgs false
inductive Rk : Type 1
  | node {ι : Type} (f : ι → Rk) : Rk
/-- One step below. -/
inductive Rk.Ch : Rk → Rk → Prop
  | mk {ι : Type} (f : ι → Rk) (i : ι) : Rk.Ch (f i) (.node f)
theorem Rk.acc (r : Rk) : Acc Rk.Ch r := by
  induction r with
  | node f ih =>
    refine Acc.intro _ fun s hs => ?_
    cases hs with
    | mk _ i => exact ih i
theorem Rk.wf : WellFounded Rk.Ch := ⟨Rk.acc⟩
def Rk.nil : Rk := .node (ι := Empty) (fun x => nomatch x)
def Rk.nat : Nat → Rk
  | 0 => .nil
  | n + 1 => .node (ι := Unit) fun _ => Rk.nat n
theorem Rk.nat_ch (n : Nat) : Rk.Ch (Rk.nat n) (Rk.nat (n + 1)) := .mk (ι := Unit) (fun _ => Rk.nat n) ()
theorem Rk.nat_inj {m n : Nat} (h : Rk.Ch (Rk.nat m) (Rk.nat n)) : ∃ k, n = k + 1 ∧ Rk.nat m = Rk.nat k := by
  cases n with
  | zero =>
    have : ∀ r, Rk.Ch r Rk.nil → False := by
      intro r hr
      unfold Rk.nil at hr
      cases hr with
      | mk _ i => exact i.elim
    exact (this _ h).elim
  | succ k =>
    refine ⟨k, rfl, ?_⟩
    have : ∀ r, Rk.Ch r (Rk.nat (k + 1)) → r = Rk.nat k := by
      intro r hr
      unfold Rk.nat at hr
      cases hr with
      | mk _ i => rfl
    exact this _ h
/-- One of the first n falls. -/
def FallsAt (n : Nat) (f' f : Nat → Rk) : Prop := ∃ i, i < n ∧ Rk.Ch (f' i) (f i) ∧ ∀ j, j ≠ i → f' j = f j
theorem fallsAt_acc : ∀ (n : Nat) (f : Nat → Rk), Acc (FallsAt n) f := by
  intro n
  induction n with
  | zero => exact fun f => Acc.intro _ fun f' ⟨i, hi, _⟩ => absurd hi (Nat.not_lt_zero i)
  | succ n ih =>
    have key : ∀ r : Rk, ∀ f : Nat → Rk, f n = r → Acc (FallsAt (n + 1)) f := by
      intro r
      induction r with
      | node g ihr =>
        intro f hf
        have ha := ih f
        induction ha with
        | intro f _ ihf =>
          refine Acc.intro _ fun f' ⟨i, hi, hc, hs⟩ => ?_
          by_cases hin : i = n
          · subst hin
            rw [hf] at hc
            generalize hx : f' i = x at hc
            cases hc with
            | mk _ k => exact ihr k f' hx
          · exact ihf f' ⟨i, by omega, hc, hs⟩ (by rw [hs n (fun e => hin e.symm)]; exact hf)
    exact fun f => key _ f rfl
theorem fallsAt_wf (n : Nat) : WellFounded (FallsAt n) := ⟨fallsAt_acc n⟩
/-- The measure: a number, the others' ranks, whether the first one is awake, its rank. -/
abbrev Mu := Nat × (Nat → Rk) × Nat × Rk
def MuLt (n : Nat) : Mu → Mu → Prop := Prod.Lex (· < ·) (Prod.Lex (FallsAt n) (Prod.Lex (· < ·) Rk.Ch))
theorem muLt_wf (n : Nat) : WellFounded (MuLt n) := (Prod.lex ⟨_, Nat.lt_wfRel.wf⟩ ⟨_, (Prod.lex ⟨_, fallsAt_wf n⟩ ⟨_, (Prod.lex ⟨_, Nat.lt_wfRel.wf⟩ ⟨_, Rk.wf⟩).wf⟩).wf⟩).wf
theorem MuLt.num {n : Nat} {a b : Nat} {f g : (Nat → Rk) × Nat × Rk} (h : a < b) : MuLt n (a, f) (b, g) := Prod.Lex.left _ _ h
theorem MuLt.other {n : Nat} {a : Nat} {f g : Nat → Rk} {r s : Nat × Rk} (h : FallsAt n f g) : MuLt n (a, f, r) (a, g, s) := Prod.Lex.right _ (Prod.Lex.left _ _ h)
theorem MuLt.flag {n : Nat} {a b c : Nat} {f : Nat → Rk} {r s : Rk} (h : b < c) : MuLt n (a, f, b, r) (a, f, c, s) := Prod.Lex.right _ (Prod.Lex.right _ (Prod.Lex.left _ _ h))
theorem MuLt.first {n : Nat} {a b : Nat} {f : Nat → Rk} {r s : Rk} (h : Rk.Ch r s) : MuLt n (a, f, b, r) (a, f, b, s) := Prod.Lex.right _ (Prod.Lex.right _ (Prod.Lex.right _ h))
section
variable (P : Program) (main : Bool) (Env : (Nat → Prop) → World → World → Prop) (Gu : (Nat → Prop) → World → World → Array Event → Prop) (Stop : (Nat → Prop) → Nat → Goroutine → World → Prop)
/-- The tree, with its rank. -/
inductive OTr : Rk → (Nat → Prop) → Nat → Goroutine → World → Prop
  | stop {r : Rk} {O : Nat → Prop} {d : Nat} {g : Goroutine} {w : World} (h : ∀ w₁, Env O w w₁ → Stop O d g w₁) : OTr r O d g w
  | step {r : World → Rk} {O : Nat → Prop} {d : Nat} {g : Goroutine} {w : World} (hr : g.status = .running) (g' : World → Goroutine) (w' : World → World) (es : World → Array Event) (h : ∀ w₁, Env O w w₁ → stepG P main g w₁ = .go (g' w₁) (w' w₁) (es w₁)) (hg : ∀ w₁, Env O w w₁ → Gu O w₁ (w' w₁) (es w₁))
      (ih : ∀ w₁, Env O w w₁ → OTr (r w₁) (grow O w₁ (w' w₁)) (deafBehind d (es w₁)) (g' w₁) (w' w₁)) : OTr (.node r) O d g w
end
section
variable {P : Program} {main : Bool} {Env : (Nat → Prop) → World → World → Prop} {Gu : (Nat → Prop) → World → World → Array Event → Prop} {Stop Stop' : (Nat → Prop) → Nat → Goroutine → World → Prop}
theorem OT.ranked {O : Nat → Prop} {d : Nat} {g : Goroutine} {w : World} (h : OT P main Env Gu Stop O d g w) : ∃ r, OTr P main Env Gu Stop r O d g w := by
  classical
  induction h with
  | stop h => exact ⟨.nil, .stop h⟩
  | @step O d g w hr g' w' es h hg _ ih =>
    refine ⟨.node fun w₁ => if he : Env O w w₁ then (ih w₁ he).choose else .nil, .step hr g' w' es h hg fun w₁ he => ?_⟩
    rw [dif_pos he]
    exact (ih w₁ he).choose_spec
theorem OTr.rely {r : Rk} {O : Nat → Prop} {d : Nat} {g : Goroutine} {w w₁ : World} (htr : ∀ O a b c, Env O a b → Env O b c → Env O a c) (h : OTr P main Env Gu Stop r O d g w) (he : Env O w w₁) : OTr P main Env Gu Stop r O d g w₁ := by
  cases h with
  | stop h => exact .stop fun w₂ h₂ => h w₂ (htr _ _ _ _ he h₂)
  | step hr g' w' es h hg ih => exact .step hr g' w' es (fun w₂ h₂ => h w₂ (htr _ _ _ _ he h₂)) (fun w₂ h₂ => hg w₂ (htr _ _ _ _ he h₂)) (fun w₂ h₂ => ih w₂ (htr _ _ _ _ he h₂))
theorem OTr.running {r : Rk} {O : Nat → Prop} {d : Nat} {g : Goroutine} {w : World} (hrefl : ∀ O w, Env O w w) (hS : ∀ O d g w, Stop O d g w → g.status = .running) (h : OTr P main Env Gu Stop r O d g w) : g.status = .running := by
  cases h with
  | stop h => exact hS _ _ _ _ (h _ (hrefl _ _))
  | step hr => exact hr
theorem OT.weaken {O : Nat → Prop} {d : Nat} {g : Goroutine} {w : World} (hs : ∀ O d g w, Stop O d g w → Stop' O d g w) (h : OT P main Env Gu Stop O d g w) : OT P main Env Gu Stop' O d g w := by
  induction h with
  | stop h => exact .stop fun w₁ he => hs _ _ _ _ (h w₁ he)
  | step hr g' w' es h hg _ ih => exact .step hr g' w' es h hg ih
/-- A walk of the kit's form is such a tree. -/
theorem OT.of_goes {R : World → World → Prop} {D : World → World → Array Event → Prop} {S : Goroutine → World → Prop} (hR : ∀ O w w₁, Env O w w₁ → R w w₁) (hst : ∀ w w' es, D w w' es → ∀ e ∈ es, e.loc ≠ .mark .disable ∧ e.loc ≠ .mark .enable) {O0 : Nat → Prop} (hD : ∀ (O : Nat → Prop), (∀ b, O0 b → O b) → ∀ w w' es, D w w' es → Gu O w w' es) :
    ∀ (n : Nat) (g : Goroutine) (w : World) (O : Nat → Prop) (d : Nat), (∀ b, O0 b → O b) → Goes P main R D S n g w → OT P main Env Gu (fun O' d' g w => d' = d ∧ (∀ b, O b → O' b) ∧ S g w) O d g w := by
  intro n
  induction n with
  | zero => exact fun g w O d _ h => .stop fun w₁ he => ⟨rfl, fun _ h => h, h w₁ (hR _ _ _ he)⟩
  | succ n ih =>
    intro g w O d hO h
    rcases h with hs | ⟨hr, hst'⟩
    · exact .stop fun w₁ he => ⟨rfl, fun _ h => h, hs w₁ (hR _ _ _ he)⟩
    · refine OT.mk hr fun w₁ he => ?_
      have h1 := hst' w₁ (hR _ _ _ he)
      cases hgo : stepG P main g w₁ with
      | go g' w' es =>
        rw [hgo, goes_go] at h1
        obtain ⟨h2, h3⟩ := h1
        refine ⟨g', w', es, rfl, hD O hO _ _ _ h2, ?_⟩
        rw [deafBehind_still (hst _ _ _ h2)]
        have h4 := ih g' w' (grow O w₁ w') d (fun b hb => .inl (hO b hb)) h3
        have : ∀ (O' : Nat → Prop) (d' : Nat) (g : Goroutine) (w : World), (d' = d ∧ (∀ b, grow O w₁ w' b → O' b) ∧ S g w) → (d' = d ∧ (∀ b, O b → O' b) ∧ S g w) := fun O' d' g w ⟨a, b, c⟩ => ⟨a, fun x hx => b x (.inl hx), c⟩
        exact OT.weaken this h4
      | _ => rw [hgo] at h1; exact h1.elim
end
end Go.Proofs.Ytgfgoflhmikalaa.par
